/- What is proved here: what is kept at a loop's head stands for the same; the evaluator of code, whole. -/
import Derived.Test.YtglbaihiibdemaaGreatDoorAm23
import Derived.LoopN
namespace Go.Proofs.YtglbaihiibdemaaGreatDoor.Am
open Go
set_option autoImplicit false
variable {X : Ctx} {mine : Nat → Prop} {w w' w'' : World} {g g' g'' : Gh} {lk lk' lk'' : Nat → Option AObj} {E E' : Env} {a : Act} {n : Nat} {o : Oper}
variable {w0 : World} {outs : List (Array Value)} {mvs : List Value} {m : Nat} {s : Cfg} {R : Type} {r : R}

theorem reach_spec {H : Heap} : ∀ (k : Nat) (todo seen : List Nat), seen.Nodup → (∀ p ∈ seen, ∃ x, look H p = some x) → (reach H k todo seen).Nodup ∧ ∀ p ∈ reach H k todo seen, ∃ x, look H p = some x
  | 0, _, _, h1, h2 => ⟨h1, h2⟩
  | _ + 1, [], _, h1, h2 => ⟨h1, h2⟩
  | k + 1, p :: todo, seen, h1, h2 => by
    simp only [reach]
    cases hc : seen.contains p with
    | true => exact reach_spec k todo seen h1 h2
    | false =>
      rw [cond_false]
      have hp : p ∉ seen := by simpa using hc
      have add : ∀ x, look H p = some x → (seen ++ [p]).Nodup ∧ ∀ q ∈ seen ++ [p], ∃ x, look H q = some x := fun x hx => by
        refine ⟨List.nodup_append.2 ⟨h1, by simp, fun y hy z hz e => ?_⟩, fun q hq => ?_⟩
        · obtain rfl : z = p := by simpa using hz
          exact hp (e ▸ hy)
        · rcases List.mem_append.1 hq with hq | hq
          · exact h2 q hq
          · obtain rfl : q = p := by simpa using hq
            exact ⟨x, hx⟩
      split
      · rename_i t cs hx
        exact reach_spec k _ _ (add _ hx).1 (add _ hx).2
      · rename_i x _ hx
        exact reach_spec k _ _ (add _ hx).1 (add _ hx).2
      · exact reach_spec k todo seen h1 h2
theorem idx_some : ∀ {l : List Nat} {p i : Nat}, idx l p = some i → l[i]? = some p
  | [], _, _, h => by simp [idx] at h
  | q :: l, p, i, h => by
    simp only [idx] at h
    cases hb : Nat.beq q p with
    | true =>
      rw [hb, cond_true] at h
      obtain rfl : 0 = i := by simpa using h
      rw [Nat.eq_of_beq_eq_true hb]; rfl
    | false =>
      rw [hb, cond_false] at h
      simp only [Option.map_eq_some_iff] at h
      obtain ⟨j, hj, rfl⟩ := h
      simpa using idx_some hj
section
variable {H : Heap} {ids : List Nat}
def renHeap (H : Heap) (ids : List Nat) : Heap := ids.map fun o => (getO H o).ren ids
def renGh (g : Gh) (ids : List Nat) : Gh := ⟨fun j => match ids[j]? with | some p => g.val p | none => undef, fun j => match ids[j]? with | some p => g.fp p | none => [], fun _ => False, g.mv⟩
theorem ren_gone {x : AObj} (h : x ≠ .gone) : x.ren ids ≠ .gone := by cases x <;> simp_all [AObj.ren]
theorem getO_look {p : Nat} {x : AObj} (h : look H p = some x) : getO H p = x := by
  unfold getO
  rw [(look_lt h).2.2]
theorem look_ren (hids : ∀ p ∈ ids, ∃ x, look H p = some x) {j p : Nat} {x : AObj} (hj : ids[j]? = some p) (hx : look H p = some x) : look (renHeap H ids) j = some (x.ren ids) := by
  unfold look renHeap
  rw [List.getElem?_map, hj, Option.map_some, getO_look hx]
  have := ren_gone (ids := ids) (look_lt hx).2.1
  split
  · rename_i h; simp at h; exact absurd h this
  · rfl
theorem look_ren_inv (hids : ∀ p ∈ ids, ∃ x, look H p = some x) {j : Nat} {y : AObj} (h : look (renHeap H ids) j = some y) : ∃ p x, ids[j]? = some p ∧ look H p = some x ∧ y = x.ren ids := by
  have h1 := (look_lt h).2.2
  unfold renHeap at h1
  rw [List.getElem?_map, Option.map_eq_some_iff] at h1
  obtain ⟨p, hp, _⟩ := h1
  obtain ⟨x, hx⟩ := hids p (List.mem_of_getElem? hp)
  rw [look_ren hids hp hx] at h
  exact ⟨p, x, hp, hx, (Option.some.inj h).symm⟩
theorem tops_ren {fp : List Nat} {x : AObj} : tops fp (x.ren ids) = tops fp x := by cases x <;> rfl
theorem okB_ren (hids : ∀ p ∈ ids, ∃ x, look H p = some x) {b : Nat} (h : okB w g (look H) b) : okB w (renGh g ids) (look (renHeap H ids)) b := by
  refine ⟨h.1, fun j y hy hm => ?_⟩
  obtain ⟨p, x, hp, hx, rfl⟩ := look_ren_inv hids hy
  rw [tops_ren] at hm
  simp only [renGh, hp] at hm
  exact h.2 p x hx hm
theorem ptrOk_ren {v gv : Value} {i off : Nat} {x : AObj} (h : PtrOk v gv i off x) : PtrOk v gv i off (x.ren ids) := by cases x <;> exact h
theorem cv_ren (hd : ∀ p, g.dead p → look H p = none) (hids : ∀ p ∈ ids, ∃ x, look H p = some x) {c : CV} {v : Value} (h : CVRel w (okB w g (look H)) g (look H) c v) : CVRel w (okB w (renGh g ids) (look (renHeap H ids))) (renGh g ids) (look (renHeap H ids)) (c.ren ids) v := by
  have live : ∀ p i, idx ids p = some i → ¬ g.dead p := fun p i hi hp => by
    obtain ⟨x, hx⟩ := hids p (List.mem_of_getElem? (idx_some hi))
    rw [hd p hp] at hx; cases hx
  cases c with
  | ref p =>
    simp only [CV.ren]
    split
    · rename_i i hi
      refine ⟨h.1, .inr ?_⟩
      rcases h.2 with h2 | ⟨t, e, xs, h2, h3⟩
      · exact absurd h2 (live p i hi)
      · exact ⟨t, e, xs, look_ren hids (idx_some hi) h2, by simp only [renGh, idx_some hi]; exact h3⟩
    · exact h.1
  | tsl p k =>
    simp only [CV.ren]
    split
    · rename_i i hi
      refine ⟨h.1, .inr ?_⟩
      rcases h.2 with h2 | ⟨t, cs, b, h2, h3, h4⟩
      · exact absurd h2 (live p i hi)
      · exact ⟨t, _, b, look_ren hids (idx_some hi) h2, by simp only [renGh, idx_some hi]; exact h3, h4⟩
    · exact CVRel.one h
  | ptr p j off =>
    simp only [CV.ren]
    split
    · rename_i i hi
      refine ⟨h.1, .inr ?_⟩
      rcases h.2 with h2 | ⟨x, h2, h3⟩
      · exact absurd h2 (live p i hi)
      · exact ⟨_, look_ren hids (idx_some hi) h2, by simp only [renGh, idx_some hi]; exact ptrOk_ren h3⟩
    · exact CVRel.one h
  | bor e xs => exact Rep.move (fun b hb => okB_ren hids hb) (fun _ _ => rfl) h
  | bptr t x =>
    obtain ⟨ad, c, h1, h2, h3, h4, h5⟩ := h
    exact ⟨ad, c, h1, h2, okB_ren hids h3, Rep.move (fun b hb => okB_ren hids hb) (fun _ _ => rfl) h4, h5⟩
  | _ => exact h
theorem all2_map {α β : Type} {Q : α → β → Prop} {Q' : α → β → Prop} {f : α → α} (hf : ∀ x y, Q x y → Q' (f x) y) : ∀ {l : List α} {k : List β}, All2 Q l k → All2 Q' (l.map f) k
  | [], [], _ => trivial
  | _ :: _, _ :: _, h => ⟨hf _ _ h.1, all2_map hf h.2⟩
  | [], _ :: _, h => h.elim
  | _ :: _, [], h => h.elim
theorem av_ren (hd : ∀ p, g.dead p → look H p = none) (hids : ∀ p ∈ ids, ∃ x, look H p = some x) {x : AV} {v : Value} (h : AVRel w (okB w g (look H)) g (look H) x v) : AVRel w (okB w (renGh g ids) (look (renHeap H ids))) (renGh g ids) (look (renHeap H ids)) (x.ren ids) v := by
  have cvs : ∀ {cs : List CV} {vs : List Value}, All2 (CVRel w (okB w g (look H)) g (look H)) cs vs → All2 (CVRel w (okB w (renGh g ids) (look (renHeap H ids))) (renGh g ids) (look (renHeap H ids))) (cs.map (CV.ren ids)) vs := fun h => all2_map (fun _ _ h => cv_ren hd hids h) h
  cases x with
  | undef => trivial
  | skip => exact h
  | c c => exact cv_ren hd hids h
  | mix cs => obtain ⟨vs, h1, h2⟩ := h; exact ⟨vs, h1, cvs h2⟩
  | fn f cs => obtain ⟨vs, h1, h2⟩ := h; exact ⟨vs, h1, cvs h2⟩
  | tup l =>
    obtain ⟨vs, h1, h2⟩ := h
    refine ⟨vs, h1, all2_map (fun p v hp => ?_) h2⟩
    obtain ⟨b, cs⟩ := p
    cases b with
    | true => obtain ⟨us, h3, h4⟩ := hp; exact ⟨us, h3, cvs h4⟩
    | false =>
      obtain ⟨c, h3, h4⟩ := hp
      have h3 : cs = [c] := h3
      subst h3
      exact ⟨c.ren ids, rfl, cv_ren hd hids h4⟩
theorem hrel_ren (r : HRel X mine w g (look H)) (hn : ids.Nodup) (hids : ∀ p ∈ ids, ∃ x, look H p = some x) : HRel X mine w (renGh g ids) (look (renHeap H ids)) := by
  have hfp : ∀ {j p : Nat}, ids[j]? = some p → (renGh g ids).fp j = g.fp p ∧ (renGh g ids).val j = g.val p := fun h => by simp [renGh, h]
  refine ⟨fun j y hy => ?_, fun j y hy b hb => ?_, fun j j' y y' hne hy hy' b hb hb' => ?_, fun j hj => hj.elim⟩
  · obtain ⟨p, x, hp, hx, rfl⟩ := look_ren_inv hids hy
    have h := r.obj p x hx
    cases x with
    | arr t e xs =>
      simp only [AObj.ren, ObjRel, (hfp hp).1, (hfp hp).2]
      exact h
    | box t cs =>
      obtain ⟨b, cur, h1, h2, h3, h4⟩ := h
      exact ⟨b, cur, (hfp hp).2.trans h1, h2, all2_map (fun _ _ h => cv_ren r.dead hids h) h3, (hfp hp).1.trans h4⟩
    | bld s =>
      obtain ⟨b, q, v, h1, h2, h3, h4, h5, h6⟩ := h
      exact ⟨b, q, v, (hfp hp).2.trans h1, h2, h3, h4, (hfp hp).1.trans h5, by rw [(hfp hp).1]; exact h6⟩
    | gone => exact h.elim
  · obtain ⟨p, x, hp, hx, rfl⟩ := look_ren_inv hids hy
    rw [(hfp hp).1] at hb
    exact r.own p x hx b hb
  · obtain ⟨p, x, hp, hx, rfl⟩ := look_ren_inv hids hy
    obtain ⟨p', x', hp', hx', rfl⟩ := look_ren_inv hids hy'
    rw [(hfp hp).1] at hb
    rw [(hfp hp').1] at hb'
    refine r.dis p p' x x' (fun e => hne ?_) hx hx' b hb hb'
    subst e
    obtain ⟨l1, e1⟩ := List.getElem?_eq_some_iff.1 hp
    obtain ⟨l2, e2⟩ := List.getElem?_eq_some_iff.1 hp'
    exact (List.getElem_inj hn).1 (e1.trans e2.symm)
theorem env_ren (E : Env) (t : Nat) : (E.ren ids).get t = (E.get t).ren ids := by
  induction E with
  | nil => rfl
  | cons p E ih =>
    obtain ⟨u, v⟩ := p
    simp only [Env.ren, List.map_cons, Env.get]
    cases hb : Nat.beq u t with
    | true => rfl
    | false => exact ih
end
/-- AT A LOOP's HEAD -/
theorem canon_holds (live : List Nat) (h : Holds X mine w0 outs mvs m s a w) : Holds X mine w0 outs mvs m (canon live s) a w := by
  obtain ⟨g, h⟩ := h
  unfold canon
  simp only
  generalize hi : reach s.heap 400 _ [] = ids
  have hs := reach_spec (H := s.heap) 400 ((live.map fun t => (t, s.env.get t)).flatMap (fun p => p.2.ids) ++ s.muts.flatMap CV.ids ++ s.outer.flatMap fun e => e.flatMap fun p => p.2.ids) [] (by simp) (by simp)
  rw [hi] at hs
  obtain ⟨hn, hids⟩ := hs
  refine ⟨renGh g ids, { hr := hrel_ren h.hr hn hids, mineS := h.mineS, dlt := fun p hp => hp.elim, outs := ?_, muts := all2_map (fun _ _ hc => cv_ren h.hr.dead hids hc) h.muts, kept := h.kept, glob := h.glob, env := fun t => ?_, size := h.size, defers := h.defers }⟩
  · exact all2_map (fun E tm he t => by rw [env_ren]; exact av_ren h.hr.dead hids (he t)) h.outs
  · simp only [env_ren]
    refine av_ren h.hr.dead hids ?_
    rcases keep_get live s.env t with h1 | h1
    · rw [h1]; exact h.env t
    · rw [h1]; trivial

/-! ### code -/
def Post (X : Ctx) (mine : Nat → Prop) (w0 : World) (outs : List (Array Value)) (mvs : List Value) (m : Nat) (K : Ex → Cfg → Option R) (r : R) : Exit → Act → World → Prop
  | .normal, a, w => ∃ s, K .normal s = some r ∧ Holds X mine w0 outs mvs m s a w
  | .exit i, a, w => ∃ s, K (.exit i) s = some r ∧ Holds X mine w0 outs mvs m s a w
  | .ret, a, w => ∃ s, K .ret s = some r ∧ Holds X mine w0 outs mvs m s a w
  | _, _, _ => False
theorem holds_drew (h : HoldsA X mine w0 outs mvs m s a w g) : HoldsA X mine w0 outs mvs m s a { w with drawn := w.drawn + 1 } g := by
  have hg : Grows X mine w { w with drawn := w.drawn + 1 } g g (look s.heap) (look s.heap) := Grows.world (Kept.drew [] w) g _ h.hr.dead (look_live _)
  have t := hg.to h.hr
  exact { h.toHoldsG.go t h.dlt with env := fun u => t.moves.av (h.env u), size := h.size, defers := h.defers }
theorem look_of {H : Heap} {p : Nat} {x : AObj} (h : H[p]? = some x) (hx : x ≠ .gone) : look H p = some x := by
  unfold look
  rw [h]
  cases x <;> first | rfl | exact absurd rfl hx
theorem region_any (hT : TabOk X) {I : Inl R} (hI : ISound X I) {keep : Option (List Nat)} {k : Cfg → Option R} {ops : Array Oper} {Q : Exit → Act → World → Prop} (hK : ∀ s a w, k s = some r → Holds X mine w0 outs mvs m s a w → Q .normal a w) (hok : drawOk ops = true) (hdst : ∀ o ∈ ops.toList, ∀ u, o.dst = some u → u < m)
    (he : evOps I X keep ops.toList (drawHead ops) ops.toList s k = some r) (h : HoldsA X mine w0 outs mvs m s a w g) : wpAny X.P .any ops Q ops.size (Array.replicate ops.size false) a w := by
  simp only [drawOk, Bool.and_eq_true, Nat.ble_eq] at hok
  obtain ⟨⟨hle, hho⟩, hto⟩ := hok
  generalize hh : drawHead ops = hd at *
  obtain ⟨tr, E', hrun, htl⟩ := evOps_head ops.toList hd s he (by simpa using hle)
  have hlen : tr.length = hd := by rw [hrun_len hrun]; simp [Nat.min_eq_left hle]
  have hget : ∀ {i : Nat}, i < hd → (ops.toList.take hd)[i]? = ops[i]? := fun hi => by rw [List.getElem?_take_of_lt hi]; simp
  have hlt : (ops.toList.take hd).length = hd := by simp [Nat.min_eq_left hle]
  have distinct : ∀ (i j t : Nat), i < hd → j < hd → (ops[i]?).bind (·.dst) = some t → (ops[j]?).bind (·.dst) = some t → i = j := by
    intro i j t hi hj h1 h2
    obtain ⟨o, ho⟩ : ∃ o, ops[i]? = some o := ⟨ops[i]'(by omega), by simp⟩
    rcases ((headOk_spec hho hi ho).2 j t hj h2).1 with h3 | h3
    · exact h3
    · rw [ho] at h1; exact absurd h1 h3
  obtain ⟨c1, c2, c3⟩ := hrun_at hrun fun i j t hi hj h1 h2 => by
    rw [hlt] at hi hj
    rw [hget hi] at h1
    rw [hget hj] at h2
    exact distinct i j t hi hj h1 h2
  have hnext : ∀ j, j < hd → nsOf s.heap.length tr (j + 1) = nsOf s.heap.length tr j + (trN tr j).length := fun j hj => by
    have hp : tr[j]? = some (tr[j]'(by omega)) := List.getElem?_eq_getElem _
    rw [nsOf_succ tr _ j _ hp]
    simp [trN, hp]
  have canon : Canon X ops hd s.env (look s.heap) (trV tr) (trN tr) (nsOf s.heap.length tr) := by
    refine ⟨fun p hp => look_none (by rwa [nsOf_zero] at hp), hnext, fun j o hj ho => ?_⟩
    obtain ⟨Ej, lkj, k1, k2, k3, k4⟩ := c1 j o (by rw [hget hj]; exact ho)
    exact ⟨Ej, lkj, fun i t hi ht => k1 i t hi (by rw [hget (by omega)]; exact ht), fun t ht => k2 t fun i hi => by rw [hget (by omega)]; exact ht i hi, k3, k4⟩
  simp only [tailOk, Bool.and_eq_true, Bool.or_eq_true, Nat.beq_eq] at hto
  have part0 : Part X mine ops hd m s.env (look s.heap) (trV tr) (trN tr) (nsOf s.heap.length tr) w g (fun j => (Array.replicate ops.size false).getD j false = true) w g (look s.heap) s.env a := by
    have no : ∀ j, ¬ (Array.replicate ops.size false).getD j false = true := fun j => by rw [getD_replicate_false]; simp
    refine ⟨h.good, h.size, h.defers, fun j t _ hj => absurd hj (no j), fun t _ => rfl, fun p x => ⟨.inl, ?_⟩, Grows0.refl mine w g _ h.hr.dead (look_live _)⟩
    rintro (h1 | ⟨j, _, hj, _⟩)
    · exact h1
    · exact absurd hj (no j)
  have main := head_any (Q := Q) (f := ops.size - hd) hT canon hho hle (hto.1.imp id fun h => h) (fun o ho => hdst o (by simpa using ho)) (fun p hp => by rw [nsOf_zero]; exact h.dlt p hp) (fun w1 g1 lk1 E1 a1 pt => ?_) hd (List.range hd) (Array.replicate ops.size false) w g (look s.heap) s.env a (by simp)
    ⟨by simp, fun j oj _ hl => (by rw [getD_replicate_false] at hl; cases hl), fun t _ ht => getD_in (by simpa using ht) (getD_replicate_false _ _)⟩ List.nodup_range (fun j => by rw [getD_replicate_false]; simp) part0
  · rw [show hd + (ops.size - hd) = ops.size by omega] at main
    exact main
  · -- the tail
    have hlk : lk1 = look (s.heap ++ tr.flatMap (·.2)) := by
      have key : ∀ (tr : List (AV × List AObj)) (n p : Nat) (x : AObj), (n ≤ p ∧ (tr.flatMap (·.2))[p - n]? = some x) ↔ ∃ j, j < tr.length ∧ nsOf n tr j ≤ p ∧ (trN tr j)[p - nsOf n tr j]? = some x := by
        intro tr
        induction tr with
        | nil => intro n p x; simp
        | cons q tr ih =>
          intro n p x
          rw [List.flatMap_cons]
          constructor
          · rintro ⟨h1, h2⟩
            by_cases h3 : p - n < q.2.length
            · rw [List.getElem?_append_left h3] at h2
              exact ⟨0, by simp, by simpa [nsOf] using h1, by simpa [trN, nsOf] using h2⟩
            · rw [List.getElem?_append_right (by omega)] at h2
              obtain ⟨j, k1, k2, k3⟩ := (ih (n + q.2.length) p x).1 ⟨by omega, by rw [show p - (n + q.2.length) = p - n - q.2.length by omega]; exact h2⟩
              exact ⟨j + 1, by simpa using k1, by simpa [nsOf] using k2, by simpa [nsOf, trN] using k3⟩
          · rintro ⟨j, k1, k2, k3⟩
            cases j with
            | zero =>
              have k2 : n ≤ p := by simpa [nsOf] using k2
              have k3 : q.2[p - n]? = some x := by simpa [trN, nsOf] using k3
              exact ⟨k2, by rw [List.getElem?_append_left (List.getElem?_eq_some_iff.1 k3).1]; exact k3⟩
            | succ j =>
              obtain ⟨h1, h2⟩ := (ih (n + q.2.length) p x).2 ⟨j, by simpa using k1, by simpa [nsOf] using k2, by simpa [nsOf, trN] using k3⟩
              refine ⟨by omega, ?_⟩
              rw [List.getElem?_append_right (by omega), show p - n - q.2.length = p - (n + q.2.length) by omega]
              exact h2
      funext p
      apply Option.ext
      intro x
      rw [pt.heap p x]
      constructor
      · rintro (h1 | ⟨j, hj, _, h1, h2⟩)
        · have hp := (look_lt h1).1
          unfold look at h1 ⊢
          rw [List.getElem?_append_left hp]
          exact h1
        · have hlive : x ≠ .gone := by
            rintro rfl
            exact pt.good.live p ((pt.heap p _).2 (.inr ⟨j, hj, hj, h1, h2⟩))
          obtain ⟨h3, h4⟩ := (key tr s.heap.length p x).2 ⟨j, by omega, h1, h2⟩
          exact look_of (by rw [List.getElem?_append_right h3]; exact h4) hlive
      · intro h1
        obtain ⟨_, hne, h2⟩ := look_lt h1
        by_cases hp : p < s.heap.length
        · rw [List.getElem?_append_left hp] at h2
          exact .inl (look_of h2 hne)
        · rw [List.getElem?_append_right (by omega)] at h2
          obtain ⟨j, k1, k2, k3⟩ := (key tr s.heap.length p x).1 ⟨by omega, h2⟩
          exact .inr ⟨j, by omega, by omega, k2, k3⟩
    subst hlk
    have hA : HoldsA X mine w0 outs mvs m ⟨E', s.outer, s.muts, s.heap ++ tr.flatMap (·.2)⟩ a1 w1 g1 := by
      have t : To X mine w w1 g g1 (look s.heap) (look (s.heap ++ tr.flatMap (·.2))) := ⟨pt.grows.moves, pt.good.hr, pt.grows.mv, pt.good.live, pt.grows.kept.toMine (by simp)⟩
      refine { h.toHoldsG.go t (fun p hp => by have := h.dlt p ((pt.grows.dead p).2 hp); simp; omega) with env := fun u => ?_, size := pt.size, defers := pt.dfr }
      have hE : E1.get u = E'.get u := by
        by_cases hx : ∃ j, j < hd ∧ (ops[j]?).bind (·.dst) = some u
        · obtain ⟨j, hj, hu⟩ := hx
          rw [pt.env1 j u hj hj hu, c2 j u (by rw [hget hj]; exact hu)]
        · rw [pt.env0 u fun j hj _ hu => hx ⟨j, hj, hu⟩, c3 u fun j hu => by
            by_cases hj : j < hd
            · rw [hget hj] at hu; exact hx ⟨j, hj, hu⟩
            · rw [List.getElem?_eq_none (by omega)] at hu; cases hu]
      rw [← hE]
      exact pt.good.env u
    have hw := evOps_list hT hI (keep := keep) (k := k) (ops := ops) (Q := Q) hK (ops.toList.drop hd) _ a1 w1 htl ⟨g1, hA⟩ fun o ho => hdst o (List.mem_of_mem_drop ho)
    have := wpAny_of_seq (md := .any) (Q' := Q) (ops.toList.drop hd) hd (headArr hd ops.size) a1 w1 (fun j => by simp [List.getElem?_drop]) (by simpa using hto.2) hw
    simpa using this
end Go.Proofs.YtglbaihiibdemaaGreatDoor.Am
