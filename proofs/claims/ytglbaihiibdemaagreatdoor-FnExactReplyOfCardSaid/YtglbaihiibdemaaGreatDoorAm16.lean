/- What is proved here: steps that change what is there: which objects are used up, which stand anew; and the taking of data out of the heap. -/
import Derived.Test.YtglbaihiibdemaaGreatDoorAm15
namespace Go.Proofs.YtglbaihiibdemaaGreatDoor.Am
open Go
set_option autoImplicit false
variable {X : Ctx} {mine : Nat → Prop} {w w' w'' : World} {g g' g'' : Gh} {lk lk' lk'' : Nat → Option AObj} {E E' : Env} {a : Act} {n : Nat} {o : Oper}

/-- A step of the world in which only blocks of W were written: tops of objects of Ch. Those of Ch are used up or stand anew. -/
structure Turn0 (mine : Nat → Prop) (W : List Nat) (Ch : Nat → Prop) (w w' : World) (g g' : Gh) (lk lk' : Nat → Option AObj) : Prop where
  kept : Kept W w w'
  wr : ∀ b ∈ W, ∃ o x, Ch o ∧ lk o = some x ∧ b ∈ tops (g.fp o) x
  mv : g'.mv = g.mv
  same : ∀ o, ¬ Ch o → lk' o = lk o ∧ g'.val o = g.val o ∧ g'.fp o = g.fp o ∧ (g.dead o ↔ g'.dead o)
  deads : ∀ o, g.dead o → lk o = none
  dead' : ∀ o, g'.dead o → lk' o = none
  obj : ∀ o x, Ch o → lk o = some x → g'.dead o ∨ (g'.val o = g.val o ∧ ∃ y, lk' o = some y ∧ Alike x y)
  deadCh : ∀ o, Ch o → g.dead o → g'.dead o
  new : ∀ o x, Ch o → lk' o = some x → ∀ b ∈ g'.fp o, b < w'.heap.size ∧ mine b ∧ (w.heap.size ≤ b ∨ ∃ o2 x2, Ch o2 ∧ lk o2 = some x2 ∧ b ∈ g.fp o2)
  top : ∀ o x, Ch o → lk' o = some x → ∀ b ∈ tops (g'.fp o) x, w.heap.size ≤ b ∨ ∃ o2 x2, Ch o2 ∧ lk o2 = some x2 ∧ b ∈ tops (g.fp o2) x2
  dis : ∀ o o' x x', o ≠ o' → Ch o → Ch o' → lk' o = some x → lk' o' = some x' → ∀ b ∈ g'.fp o, b ∉ g'.fp o'
  live : ∀ o, lk o ≠ some .gone
structure Turn (X : Ctx) (mine : Nat → Prop) (W : List Nat) (Ch : Nat → Prop) (w w' : World) (g g' : Gh) (lk lk' : Nat → Option AObj) : Prop extends Turn0 mine W Ch w w' g g' lk lk' where
  rel : ∀ o x, Ch o → lk' o = some x → ObjRel X w' (okB w' g' lk') g' lk' o x
variable {W : List Nat} {Ch : Nat → Prop}
theorem Turn0.okB (t : Turn0 mine W Ch w w' g g' lk lk') {b : Nat} (hb : Am.okB w g lk b) : Am.okB w' g' lk' b := by
  refine ⟨Nat.lt_of_lt_of_le hb.1 t.kept.size, fun o x hx hm => ?_⟩
  by_cases hc : Ch o
  · rcases t.top o x hc hx b hm with h | ⟨o2, x2, _, h2, h3⟩
    · have := hb.1; omega
    · exact hb.2 o2 x2 h2 h3
  · obtain ⟨h1, _, h3, _⟩ := t.same o hc
    rw [h3] at hm
    exact hb.2 o x (h1 ▸ hx) hm
theorem Turn0.moves (t : Turn0 mine W Ch w w' g g' lk lk') : Moves w w' (Am.okB w g lk) (Am.okB w' g' lk') g g' lk lk' := by
  refine ⟨fun _ hb => t.okB hb, fun b hb => t.kept.block b hb.1 fun hm => ?_, fun o hd => ?_, fun o x hx => ?_, t.live⟩
  · obtain ⟨o, x, _, h1, h2⟩ := t.wr b hm
    exact hb.2 o x h1 h2
  · by_cases hc : Ch o
    · exact t.deadCh o hc hd
    · exact (t.same o hc).2.2.2.1 hd
  · by_cases hc : Ch o
    · exact t.obj o x hc hx
    · obtain ⟨h1, h2, _⟩ := t.same o hc
      exact .inr ⟨h2, x, h1.trans hx, Alike.refl x⟩
theorem Turn.hrel (t : Turn X mine W Ch w w' g g' lk lk') (r : HRel X mine w g lk) : HRel X mine w' g' lk' := by
  have apart : ∀ o o' x x', ¬ Ch o → Ch o' → lk' o = some x → lk' o' = some x' → ∀ b ∈ g'.fp o, b ∉ g'.fp o' := by
    intro o o' x x' hc hc' hx hx' b hb hb'
    obtain ⟨h1, _, h3, _⟩ := t.same o hc
    rw [h3] at hb
    rw [h1] at hx
    rcases (t.new o' x' hc' hx' b hb').2.2 with h | ⟨o2, x2, hc2, h4, h5⟩
    · have := (r.own o x hx b hb).1; omega
    · exact r.dis o o2 x x2 (fun e => hc (e ▸ hc2)) hx h4 b hb h5
  refine ⟨fun o x hx => ?_, fun o x hx b hb => ?_, fun o o' x x' hne hx hx' b hb hb' => ?_, t.dead'⟩
  · by_cases hc : Ch o
    · exact t.rel o x hc hx
    · obtain ⟨h1, h2, h3, _⟩ := t.same o hc
      rw [h1] at hx
      refine t.moves.objRel (r.obj o x hx) h2 h3 fun b hb => t.kept.block b (r.own o x hx b hb).1 fun hm => ?_
      obtain ⟨o2, x2, hc2, h4, h5⟩ := t.wr b hm
      exact r.dis o o2 x x2 (fun e => hc (e ▸ hc2)) hx h4 b hb (tops_sub b h5)
  · by_cases hc : Ch o
    · exact ⟨(t.new o x hc hx b hb).1, (t.new o x hc hx b hb).2.1⟩
    · obtain ⟨h1, h2, h3, _⟩ := t.same o hc
      rw [h1] at hx
      rw [h3] at hb
      exact ⟨Nat.lt_of_lt_of_le (r.own o x hx b hb).1 t.kept.size, (r.own o x hx b hb).2⟩
  · by_cases hc : Ch o <;> by_cases hc' : Ch o'
    · exact t.dis o o' x x' hne hc hc' hx hx' b hb hb'
    · exact apart o' o x' x hc' hc hx' hx b hb' hb
    · exact apart o o' x x' hc hc' hx hx' b hb hb'
    · obtain ⟨h1, _, h3, _⟩ := t.same o hc
      obtain ⟨h4, _, h6, _⟩ := t.same o' hc'
      rw [h1] at hx
      rw [h4] at hx'
      rw [h3] at hb
      rw [h6] at hb'
      exact r.dis o o' x x' hne hx hx' b hb hb'
theorem Turn.live' (t : Turn X mine W Ch w w' g g' lk lk') (o : Nat) : lk' o ≠ some .gone := by
  intro hx
  by_cases hc : Ch o
  · exact t.rel o _ hc hx
  · rw [(t.same o hc).1] at hx
    exact t.live o hx


/-- a step between two states, as the rest of the call sees it -/
structure To (X : Ctx) (mine : Nat → Prop) (w w' : World) (g g' : Gh) (lk lk' : Nat → Option AObj) : Prop where
  moves : Moves w w' (okB w g lk) (okB w' g' lk') g g' lk lk'
  hrel : HRel X mine w' g' lk'
  mv : g'.mv = g.mv
  live : ∀ o, lk' o ≠ some .gone
  mine : Mine mine w w'
theorem Grows.to (h : Grows X mine w w' g g' lk lk') (r : HRel X mine w g lk) : To X mine w w' g g' lk lk' := ⟨h.moves, h.hrel r, h.mv, h.live', h.kept.toMine (by simp)⟩
theorem Turn.to (t : Turn X mine W Ch w w' g g' lk lk') (r : HRel X mine w g lk) : To X mine w w' g g' lk lk' :=
  ⟨t.moves, t.hrel r, t.mv, t.live', t.kept.toMine fun b hb => by obtain ⟨o, x, _, h1, h2⟩ := t.wr b hb; exact (r.own o x h1 b (tops_sub b h2)).2⟩
theorem Good.go (h : Good X mine w g lk E a) (hg : To X mine w w' g g' lk lk') {v : AV} {v' : Value} (hv : AVRel w' (okB w' g' lk') g' lk' v v') {d : Option Tmp} (hd : ∀ u, d = some u → u < a.tmps.size) (hE : ∀ t, E'.get t = (E.put d v).get t) : Good X mine w' g' lk' E' (a.put d v') := by
  refine ⟨hg.hrel, hg.live, fun t => ?_, fun u hu => h.glob u (hg.mine.trans hu), fun b hb => h.mine b (Nat.le_trans hg.mine.size hb)⟩
  rw [hE, get_put, put_get a d v' hd]
  split
  · exact hv
  · exact hg.moves.av (h.env t)
/-- what an operation comes to that changes what is there -/
def DoneM (X : Ctx) (mine : Nat → Prop) (w : World) (g : Gh) (lk : Nat → Option AObj) (a : Act) (o : Oper) (v : AV) (lk' : Nat → Option AObj) : Prop :=
  ∀ (K : Act → World → Prop) (Q : Exit → Act → World → Prop), (∀ v' w' g', To X mine w w' g g' lk lk' → AVRel w' (okB w' g' lk') g' lk' v v' → (∀ p, g'.dead p → ¬ g.dead p → (lk p).isSome = true) → K (a.put o.dst v') w') → o.wp X.P a w K Q

/-! ### heaps -/
theorem look_set (H : Heap) (p q : Nat) (x : AObj) (hx : x ≠ .gone) (hp : p < H.length) : look (H.set p x) q = if p = q then some x else look H q := by
  unfold look
  rw [List.getElem?_set]
  by_cases h : p = q
  · subst h
    simp only [if_true, if_pos hp]
    cases x <;> first | rfl | exact absurd rfl hx
  · simp only [if_neg h]
theorem look_gone (H : Heap) (p q : Nat) : look (H.set p .gone) q = if p = q then none else look H q := by
  unfold look
  rw [List.getElem?_set]
  by_cases h : p = q
  · subst h
    by_cases hp : p < H.length
    · simp [hp]
    · simp [hp]
  · simp only [if_neg h]
theorem look_lt {H : Heap} {p : Nat} {x : AObj} (h : look H p = some x) : p < H.length ∧ x ≠ .gone ∧ H[p]? = some x := by
  unfold look at h
  split at h
  · cases h
  · rename_i hne
    refine ⟨(List.getElem?_eq_some_iff.1 h).1, ?_, h⟩
    rintro rfl
    exact hne h
theorem look_append (H N : Heap) (hN : ∀ x ∈ N, x ≠ .gone) : look (H ++ N) = lkAdd (look H) H.length N := by
  funext q
  unfold lkAdd
  by_cases hq : H.length ≤ q
  · rw [if_pos hq]
    unfold look
    rw [List.getElem?_append_right hq]
    cases hn : N[q - H.length]? with
    | none => rw [List.getElem?_eq_none hq]
    | some y =>
      have := hN y (List.mem_of_getElem? hn)
      cases y <;> first | rfl | exact absurd rfl this
  · rw [if_neg hq]
    unfold look
    rw [List.getElem?_append_left (by omega)]
theorem look_none {H : Heap} {p : Nat} (h : H.length ≤ p) : look H p = none := by
  unfold look
  rw [List.getElem?_eq_none h]

/-! ### taking -/
/-- the objects C are taken out -/
structure Taken (H H' : Heap) (C : List Nat) : Prop where
  len : H'.length = H.length
  look : ∀ o, look H' o = if o ∈ C then none else look H o
  nodup : C.Nodup
  arr : ∀ o ∈ C, ∃ tid e xs, Am.look H o = some (.arr tid e xs)
theorem Taken.none (H : Heap) : Taken H H [] := ⟨rfl, fun o => by simp, by simp, by simp⟩
theorem Taken.trans {H H' H'' : Heap} {C C' : List Nat} (h : Taken H H' C) (k : Taken H' H'' C') : Taken H H'' (C ++ C') := by
  have sep : ∀ o ∈ C', o ∉ C := by
    intro o ho hc
    obtain ⟨tid, e, xs, h1⟩ := k.arr o ho
    rw [h.look, if_pos hc] at h1
    cases h1
  refine ⟨k.len.trans h.len, fun o => ?_, List.nodup_append.2 ⟨h.nodup, k.nodup, fun x hx y hy e => sep y hy (e ▸ hx)⟩, fun o ho => ?_⟩
  · rw [k.look, h.look]
    by_cases h1 : o ∈ C <;> by_cases h2 : o ∈ C' <;> simp [h1, h2]
  · rcases List.mem_append.1 ho with ho | ho
    · exact h.arr o ho
    · obtain ⟨tid, e, xs, h1⟩ := k.arr o ho
      rw [h.look, if_neg (sep o ho)] at h1
      exact ⟨tid, e, xs, h1⟩
def fps (g : Gh) (C : List Nat) : List Nat := C.flatMap g.fp
theorem fps_nodup (r : HRel X mine w g lk) : ∀ {C : List Nat}, C.Nodup → (∀ o ∈ C, ∃ tid e xs, lk o = some (.arr tid e xs)) → (fps g C).Nodup
  | [], _, _ => by simp [fps]
  | c :: C, hn, h => by
    rw [List.nodup_cons] at hn
    have ih := fps_nodup r (C := C) hn.2 fun o ho => h o (List.mem_cons_of_mem _ ho)
    obtain ⟨tid, e, xs, hc⟩ := h c List.mem_cons_self
    have hown : Own w (.sl tid e) xs [g.val c] (g.fp c) := r.obj c _ hc
    rw [fps, List.flatMap_cons, List.nodup_append]
    refine ⟨hown.nodup, ih, fun x hx y hy e => ?_⟩
    subst e
    obtain ⟨o, ho, hb⟩ := List.mem_flatMap.1 hy
    obtain ⟨_, _, _, hl⟩ := h o (List.mem_cons_of_mem _ ho)
    exact r.dis c o _ _ (fun e => hn.1 (e ▸ ho)) hc hl x hx hb
section
variable (r : HRel X mine w g lk) {ok : Nat → Prop}
include r
theorem take1_rel {H H' : Heap} {t : Ty} {c : CV} {x : t.den} {v : Value} (hH : ∀ o x, look H o = some x → lk o = some x) (h : take1 H t c = some (x, H')) (hc : CVRel w ok g lk c v) : ∃ C, Taken H H' C ∧ Own w t x [v] (fps g C) := by
  unfold take1 at h
  split at h
  · rename_i k k' m
    rw [cond_some] at h
    obtain ⟨hk, h⟩ := h
    simp only [Prod.mk.injEq] at h
    obtain ⟨rfl, rfl⟩ := h
    have hc : v = .int k' m := hc
    obtain rfl := IntKind.same_eq hk
    exact ⟨[], Taken.none _, by rw [hc]; exact ⟨rfl, rfl⟩⟩
  · simp only [Option.some.injEq, Prod.mk.injEq] at h
    obtain ⟨rfl, rfl⟩ := h
    have hc : v = .bool _ := hc
    exact ⟨[], Taken.none _, by rw [hc]; exact ⟨rfl, rfl⟩⟩
  · simp only [Option.some.injEq, Prod.mk.injEq] at h
    obtain ⟨rfl, rfl⟩ := h
    have hc : v = .string _ := hc
    exact ⟨[], Taken.none _, by rw [hc]; exact ⟨rfl, rfl⟩⟩
  · simp only [Option.some.injEq, Prod.mk.injEq] at h
    obtain ⟨rfl, rfl⟩ := h
    obtain ⟨ad, hc⟩ := hc
    exact ⟨[], Taken.none _, by rw [hc]; exact .inl ⟨ad, rfl, rfl, rfl⟩⟩
  · rename_i t0 e p
    split at h
    · rename_i t' e' xs hp
      rw [cond_none] at h
      obtain ⟨ht, h⟩ := h
      simp only [Option.map_eq_some_iff, Prod.mk.injEq] at h
      obtain ⟨ys, hy, rfl, rfl⟩ := h
      obtain ⟨rfl, rfl⟩ := castL_some hy
      obtain rfl := Nat.eq_of_beq_eq_true ht
      have hl := hH p _ hp
      refine ⟨[p], ⟨by simp, fun o => ?_, by simp, fun o ho => ?_⟩, ?_⟩
      · rw [look_gone]
        by_cases hpo : p = o
        · subst hpo; simp
        · have : o ≠ p := fun e => hpo e.symm
          simp [hpo, this]
      · obtain rfl : o = p := by simpa using ho
        exact ⟨_, _, _, hp⟩
      · rcases hc.2 with hd | ⟨t2, e2, xs2, h2, hv⟩
        · rw [r.dead _ hd] at hl; cases hl
        · rw [hv]
          simpa [fps] using (show Own w (.sl t' _) _ [g.val p] (g.fp p) from r.obj p _ hl)
    · cases h
  · cases h
theorem takeN_rel : ∀ {t : Ty} {H H' : Heap} {cs rest : List CV} {x : t.den} {vs : List Value}, (∀ o x, look H o = some x → lk o = some x) → takeN t H cs = some (x, rest, H') → All2 (CVRel w ok g lk) cs vs →
    ∃ v1 v2 C, vs = v1 ++ v2 ∧ Taken H H' C ∧ Own w t x v1 (fps g C) ∧ All2 (CVRel w ok g lk) rest v2
  | .pair a b, H, H', cs, rest, x, vs, hH, h, hc => by
    simp only [takeN, Option.bind_eq_some_iff, Option.some.injEq] at h
    obtain ⟨⟨p1, p2, p3⟩, hp, ⟨q1, q2, q3⟩, hq, he⟩ := h
    simp only [Prod.mk.injEq] at he hq
    obtain ⟨rfl, rfl, rfl⟩ := he
    obtain ⟨v1, v2, C1, rfl, t1, o1, h2⟩ := takeN_rel hH hp hc
    obtain ⟨v3, v4, C2, rfl, t2, o2, h3⟩ := takeN_rel (fun o x hx => by
      rw [t1.look] at hx
      split at hx
      · cases hx
      · exact hH o x hx) hq h2
    have tt := t1.trans t2
    have hf : fps g (C1 ++ C2) = fps g C1 ++ fps g C2 := by simp [fps]
    refine ⟨v1 ++ v3, v4, C1 ++ C2, by simp, tt, ⟨v1, v3, fps g C1, fps g C2, rfl, hf, ?_, o1, o2⟩, h3⟩
    exact fps_nodup r tt.nodup fun o ho => by obtain ⟨a1, a2, a3, h⟩ := tt.arr o ho; exact ⟨a1, a2, a3, hH o _ h⟩
  | .int k, H, H', c :: cs, rest, x, v :: vs, hH, h, hc => by
    simp only [takeN, Option.map_eq_some_iff, Prod.mk.injEq] at h
    obtain ⟨⟨y, H1⟩, hy, rfl, rfl, rfl⟩ := h
    obtain ⟨C, t1, o1⟩ := take1_rel r hH hy hc.1
    exact ⟨[v], vs, C, rfl, t1, o1, hc.2⟩
  | .bool, H, H', c :: cs, rest, x, v :: vs, hH, h, hc => by
    simp only [takeN, Option.map_eq_some_iff, Prod.mk.injEq] at h
    obtain ⟨⟨y, H1⟩, hy, rfl, rfl, rfl⟩ := h
    obtain ⟨C, t1, o1⟩ := take1_rel r hH hy hc.1
    exact ⟨[v], vs, C, rfl, t1, o1, hc.2⟩
  | .str, H, H', c :: cs, rest, x, v :: vs, hH, h, hc => by
    simp only [takeN, Option.map_eq_some_iff, Prod.mk.injEq] at h
    obtain ⟨⟨y, H1⟩, hy, rfl, rfl, rfl⟩ := h
    obtain ⟨C, t1, o1⟩ := take1_rel r hH hy hc.1
    exact ⟨[v], vs, C, rfl, t1, o1, hc.2⟩
  | .sl _ _, H, H', c :: cs, rest, x, v :: vs, hH, h, hc => by
    simp only [takeN, Option.map_eq_some_iff, Prod.mk.injEq] at h
    obtain ⟨⟨y, H1⟩, hy, rfl, rfl, rfl⟩ := h
    obtain ⟨C, t1, o1⟩ := take1_rel r hH hy hc.1
    exact ⟨[v], vs, C, rfl, t1, o1, hc.2⟩
  | .int _, _, _, [], _, _, _, _, h, _ => by simp [takeN] at h
  | .bool, _, _, [], _, _, _, _, h, _ => by simp [takeN] at h
  | .str, _, _, [], _, _, _, _, h, _ => by simp [takeN] at h
  | .sl _ _, _, _, [], _, _, _, _, h, _ => by simp [takeN] at h
  | .int _, _, _, _ :: _, _, _, [], _, _, hc => hc.elim
  | .bool, _, _, _ :: _, _, _, [], _, _, hc => hc.elim
  | .str, _, _, _ :: _, _, _, [], _, _, hc => hc.elim
  | .sl _ _, _, _, _ :: _, _, _, [], _, _, hc => hc.elim
theorem takeElems_rel {e : Ty} : ∀ {m : Nat} {H H' : Heap} {cs : List CV} {xs : List e.den} {vs : List Value}, (∀ o x, look H o = some x → lk o = some x) → takeElems e m H cs = some (xs, H') → All2 (CVRel w ok g lk) cs vs →
    ∃ C, Taken H H' C ∧ Rows (Own w e) xs vs (fps g C) ∧ xs.length = m
  | 0, H, H', [], xs, vs, hH, h, hc => by
    simp only [takeElems, Option.some.injEq, Prod.mk.injEq] at h
    obtain ⟨rfl, rfl⟩ := h
    have : vs = [] := by cases vs with | nil => rfl | cons _ _ => exact hc.elim
    subst this
    exact ⟨[], Taken.none _, ⟨rfl, rfl⟩, rfl⟩
  | m + 1, H, H', cs, xs, vs, hH, h, hc => by
    simp only [takeElems, Option.bind_eq_some_iff, Option.some.injEq] at h
    obtain ⟨⟨p1, p2, p3⟩, hp, ⟨q1, q3⟩, hq, he⟩ := h
    simp only [Prod.mk.injEq] at he hq
    obtain ⟨rfl, rfl⟩ := he
    obtain ⟨v1, v2, C1, rfl, t1, o1, h2⟩ := takeN_rel r hH hp hc
    obtain ⟨C2, t2, o2, hl⟩ := takeElems_rel (fun o x hx => by
      rw [t1.look] at hx
      split at hx
      · cases hx
      · exact hH o x hx) hq h2
    exact ⟨C1 ++ C2, t1.trans t2, ⟨v1, v2, fps g C1, fps g C2, rfl, by simp [fps], o1, o2⟩, by simp [hl]⟩
  | 0, _, _, _ :: _, _, _, _, h, _ => by simp [takeElems] at h
end
end Go.Proofs.YtglbaihiibdemaaGreatDoor.Am
