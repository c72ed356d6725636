/- What is proved here: the store, whole. -/
import Derived.Test.YtglbaihiibdemaaGreatDoorAm17
namespace Go.Proofs.YtglbaihiibdemaaGreatDoor.Am
open Go
set_option autoImplicit false
variable {X : Ctx} {mine : Nat → Prop} {w w' w'' : World} {g g' g'' : Gh} {lk lk' lk'' : Nat → Option AObj} {E E' : Env} {a : Act} {n : Nat} {o : Oper}

theorem Kept.setRow (w : World) (b : Nat) (cs : Array Value) : Kept [b] w (w.setRow b cs) := ⟨rfl, rfl, rfl, by simp [World.setRow], fun k _ hk => setRow_other w b k cs (by simpa using hk)⟩
def Gh.set (g : Gh) (p : Nat) (fp' : List Nat) (C : List Nat) : Gh := ⟨g.val, fun o => if o = p then fp' else g.fp o, fun o => g.dead o ∨ o ∈ C, g.mv⟩
theorem turn_set {H : Heap} (r : HRel X mine w g (look H)) {p : Nat} {x y : AObj} {H1 : Heap} {C : List Nat} (hp : look H p = some x) (hy : y ≠ .gone) (t : Taken (H.set p .gone) H1 C) (hal : Alike x y) {W : List Nat} (hk : Kept W w w') (hW : ∀ b ∈ W, b ∈ tops (g.fp p) x)
    {fp' : List Nat} (hfp : ∀ b ∈ fp', b ∈ g.fp p ∨ b ∈ fps g C) (htop : ∀ b ∈ tops fp' y, b ∈ tops (g.fp p) x)
    (hrel : Moves w w' (okB w g (look H)) (okB w' (g.set p fp' C) (look (H1.set p y))) g (g.set p fp' C) (look H) (look (H1.set p y)) → ObjRel X w' (okB w' (g.set p fp' C) (look (H1.set p y))) (g.set p fp' C) (look (H1.set p y)) p y) :
    Turn X mine W (fun o => o = p ∨ o ∈ C) w w' g (g.set p fp' C) (look H) (look (H1.set p y)) := by
  have hlen : p < H1.length := by rw [t.len, List.length_set]; exact (look_lt hp).1
  have hpC : p ∉ C := fun hm => by
    obtain ⟨_, _, _, h⟩ := t.arr p hm
    rw [look_gone] at h
    simp at h
  have hlk : ∀ q, look (H1.set p y) q = if p = q then some y else if q ∈ C then none else look H q := by
    intro q
    rw [look_set _ _ _ _ hy hlen, t.look, look_gone]
    by_cases h : p = q <;> simp [h]
  have harr : ∀ c ∈ C, ∃ z, look H c = some z := fun c hc => by
    obtain ⟨tid, e, xs, h⟩ := t.arr c hc
    rw [look_gone] at h
    split at h
    · cases h
    · exact ⟨_, h⟩
  have t0 : Turn0 mine W (fun o => o = p ∨ o ∈ C) w w' g (g.set p fp' C) (look H) (look (H1.set p y)) := by
    refine ⟨hk, fun b hb => ⟨p, x, .inl rfl, hp, hW b hb⟩, rfl, fun q hq => ?_, r.dead, fun q hq => ?_, fun q z hq hz => ?_, fun q _ hd => .inl hd, fun q z hq hz b hb => ?_, fun q z hq hz b hb => ?_, fun q q' z z' hne hq hq' hz hz' => ?_, fun q hq => (look_lt hq).2.1 rfl⟩
    · simp only [not_or] at hq
      have : ¬ p = q := fun e => hq.1 e.symm
      refine ⟨by rw [hlk, if_neg this, if_neg hq.2], rfl, by simp [Gh.set, hq.1], by simp [Gh.set, hq.2]⟩
    · rw [hlk]
      rcases hq with hq | hq
      · have h0 := r.dead q hq
        rw [if_neg (fun e : p = q => by subst e; rw [hp] at h0; cases h0), h0]
        simp
      · rw [if_neg (fun e : p = q => hpC (e ▸ hq)), if_pos hq]
    · rcases hq with rfl | hq
      · rw [hp] at hz
        obtain rfl : x = z := by simpa using hz
        exact .inr ⟨rfl, y, by rw [hlk, if_pos rfl], hal⟩
      · exact .inl (.inr hq)
    · rw [hlk] at hz
      rcases hq with rfl | hq
      · have hb : b ∈ fp' := by simpa [Gh.set] using hb
        rcases hfp b hb with h | h
        · have := r.own _ _ hp b h
          exact ⟨Nat.lt_of_lt_of_le this.1 hk.size, this.2, .inr ⟨_, x, .inl rfl, hp, h⟩⟩
        · obtain ⟨c, hc, h⟩ := List.mem_flatMap.1 h
          obtain ⟨z', hz'⟩ := harr c hc
          have := r.own _ _ hz' b h
          exact ⟨Nat.lt_of_lt_of_le this.1 hk.size, this.2, .inr ⟨c, z', .inr hc, hz', h⟩⟩
      · rw [if_neg (fun e : p = q => hpC (e ▸ hq)), if_pos hq] at hz
        cases hz
    · rw [hlk] at hz
      rcases hq with rfl | hq
      · rw [if_pos rfl] at hz
        obtain rfl : y = z := by simpa using hz
        exact .inr ⟨_, x, .inl rfl, hp, htop b (by simpa [Gh.set] using hb)⟩
      · rw [if_neg (fun e : p = q => hpC (e ▸ hq)), if_pos hq] at hz
        cases hz
    · rw [hlk] at hz hz'
      rcases hq with hq | hq
      · rcases hq' with hq' | hq'
        · exact absurd (hq.trans hq'.symm) hne
        · rw [if_neg (fun e : p = q' => hpC (e ▸ hq')), if_pos hq'] at hz'
          cases hz'
      · rw [if_neg (fun e : p = q => hpC (e ▸ hq)), if_pos hq] at hz
        cases hz
  refine { t0 with rel := fun q z hq hz => ?_ }
  rw [hlk] at hz
  rcases hq with rfl | hq
  · rw [if_pos rfl] at hz
    obtain rfl : y = z := by simpa using hz
    exact hrel t0.moves
  · rw [if_neg (fun e : p = q => hpC (e ▸ hq)), if_pos hq] at hz
    cases hz
def OutM.gives : OutM → AV → Heap → Prop
  | .pure v H, u, H' => u = v ∧ H' = H
  | .guard b v H, u, H' => b = true ∧ u = v ∧ H' = H
  | .call _ x f, u, H' => ∃ c, x = some c ∧ (u, H') = f c
theorem doneM_skip {H H' : Heap} (h : Good X mine w g (look H) E a) {W : List Nat} {Ch : Nat → Prop} (t : Turn X mine W Ch w w' g g' (look H) (look H')) (hd : ∀ p, g'.dead p → g.dead p ∨ (look H p).isSome = true) (h1 : (execOp a.eval o).run X.P w = .ok .skip w') : DoneM X mine w g (look H) a o .undef (look H') := by
  intro K Q hK
  unfold Oper.wp
  rw [h1, Oper.upon_skip]
  exact hK undef w' g' (t.to h.hr) trivial fun p h2 h3 => (hd p h2).resolve_left h3
theorem store_sound {H : Heap} (h : Good X mine w g (look H) E a) {t : TypeId} {x y : Operand} (ho : o.op = .store t x y) {out : OutM} (hl : storeM X H t (E.ev x) (E.ev y) = some out) {v : AV} {H' : Heap} (hg : out.gives v H') : DoneM X mine w g (look H) a o v (look H') := by
  have hx := h.ev x
  have hy := h.ev y
  unfold storeM at hl
  split at hl
  · rename_i sz p i off cs hsz hex hcs
    rw [hex] at hx
    rw [cond_none] at hl
    obtain ⟨hlen, hl⟩ := hl
    obtain rfl := Nat.eq_of_beq_eq_true hlen
    have hys := cells_rel hy hcs
    have hyl : (a.eval y).cells.size = cs.length := by simpa using hys.len.symm
    have hone : ∀ u ∈ (a.eval y).cells.toList, u.oneCell' = true := by
      intro u hu
      obtain ⟨j, hj, he⟩ := List.getElem_of_mem hu
      have hlj : j < cs.length := by rw [hys.len]; exact hj
      obtain ⟨z, h1, h2⟩ := hys.get j (cs[j]) (List.getElem?_eq_getElem hlj)
      rw [List.getElem?_eq_getElem hj, he] at h1
      obtain rfl : u = z := by simpa using h1
      exact h2.one
    obtain ⟨_, hx⟩ := hx
    split at hl
    · rename_i tid bs hp
      simp only [cond_some, Bool.and_eq_true, Nat.ble_eq, Nat.beq_eq] at hl
      obtain ⟨⟨hle, rfl⟩, rfl⟩ := hl
      obtain ⟨rfl, rfl⟩ := hg
      rcases hx with hx | ⟨z, hz, hpo⟩
      · rw [h.hr.dead _ hx] at hp; cases hp
      · rw [hp] at hz
        obtain rfl := (Option.some.inj hz)
        obtain ⟨b, hgv, hv⟩ := hpo rfl
        obtain ⟨b', cur, hgv', hb, hcells, hfp⟩ := h.hr.obj _ _ hp
        rw [hgv] at hgv'
        obtain rfl : b = b' := by simpa using hgv'
        have hcl : bs.length = cur.size := by simpa using hcells.len
        have hrun := store_run ho hv hsz hyl hone hb (by omega)
        have t := turn_set (w' := w.setRow b (cur.toList.take off ++ (a.eval y).cells.toList ++ cur.toList.drop (off + cs.length)).toArray) (y := .box tid (bs.take off ++ cs ++ bs.drop (off + cs.length))) (fp' := g.fp p) (W := [b]) h.hr hp (by simp) (Taken.none _) ⟨_, rfl⟩ (Kept.setRow w b _) (fun q hq => by rw [hfp]; simpa [tops] using hq) (fun q hq => .inl hq) (fun q hq => hq) fun m => by
          refine ⟨b, _, hgv, setRow_heap w b cur _ tid _ hb, ?_, by simp [Gh.set, hfp]⟩
          have h1 : All2 (CVRel w (okB w g (look H)) g (look H)) (bs.take off ++ cs ++ bs.drop (off + cs.length)) (cur.toList.take off ++ (a.eval y).cells.toList ++ cur.toList.drop (off + cs.length)) :=
            ((hcells.take off).append hys).append (hcells.drop _)
          simpa using h1.imp fun _ _ _ _ h => m.cv h
        rw [List.set_set] at t
        exact doneM_skip h t (fun q hq => .inl (by simpa [Gh.set] using hq)) hrun
    · rename_i tid e xs hp
      rcases hx with hx | ⟨z, hz, hpo⟩
      · rw [h.hr.dead _ hx] at hp; cases hp
      · rw [hp] at hz
        obtain rfl := (Option.some.inj hz)
        obtain ⟨hi, b, nn, cc, hgv, hv⟩ := hpo
        have hown : Own w (.sl tid e) xs [g.val p] (g.fp p) := h.hr.obj _ _ hp
        have hH : ∀ q z, look (H.set p .gone) q = some z → look H q = some z := by
          intro q z hq
          rw [look_gone] at hq
          split at hq
          · cases hq
          · exact hq
        -- what follows is the same for an element and for a cell of one
        have main : ∀ (x' : e.den) (H1 : Heap) (C : List Nat), Taken (H.set p .gone) H1 C → off + cs.length ≤ e.n →
            (∀ c T, Own w e (xs.getD i e.dflt) c T → (∀ q ∈ fps g C, q ∉ T) → ∃ T', Own w e x' (c.take off ++ (a.eval y).cells.toList ++ c.drop (off + (a.eval y).cells.toList.length)) T' ∧ ∀ q ∈ T', q ∈ T ∨ q ∈ fps g C) →
            DoneM X mine w g (look H) a o .undef (look (H1.set p (.arr tid e (xs.set i x')))) := by
          intro x' H1 C tk hoff hnew
          have hyl' : (a.eval y).cells.toList.length = cs.length := by simpa using hyl
          have hD : ∀ q ∈ fps g C, q ∉ g.fp p := by
            intro q hq hq2
            obtain ⟨c, hc, hqc⟩ := List.mem_flatMap.1 hq
            obtain ⟨_, _, _, hlc⟩ := tk.arr c hc
            have hcp : c ≠ p := by
              rintro rfl
              rw [look_gone] at hlc
              simp at hlc
            exact h.hr.dis c p _ _ hcp (hH _ _ hlc) hp q hqc hq2
          obtain ⟨b', cap, cur, fp', e1, hb, hfit, hh, hh', hsub, hown'⟩ := own_put (D := fps g C) hown (getD_get (d := e.dflt) hi) (by rw [hyl']; exact hoff) hD hnew
          rw [hgv] at e1
          obtain rfl : b = b' := by have := e1; simp at this; exact this.1
          rw [hyl'] at hown' hfit
          have hrun := store_run ho hv hsz hyl hone hb hfit
          have htop : tops (g.fp p) (.arr tid e xs) = [b] := by
            cases hf : g.fp p with
            | nil => rw [hf] at hh; cases hh
            | cons z l => rw [hf] at hh; simp at hh; simp [tops, hh]
          have htop' : ∀ x'', tops fp' (.arr tid e x'') = [b] := by
            intro x''
            cases hf : fp' with
            | nil => rw [hf] at hh'; cases hh'
            | cons z l => rw [hf] at hh'; simp at hh'; simp [tops, hh']
          have t := turn_set (w' := w.setRow b (cur.toList.take (i * e.n + off) ++ (a.eval y).cells.toList ++ cur.toList.drop (i * e.n + off + cs.length)).toArray) (y := .arr tid e (xs.set i x')) (fp' := fp') (W := [b]) h.hr hp (by simp) tk ⟨_, rfl, by simp⟩ (Kept.setRow w b _) (fun q hq => by rw [htop]; exact hq) hsub (fun q hq => by rw [htop'] at hq; rw [htop]; exact hq) fun m => by
            simpa [ObjRel, Gh.set] using hown'
          refine doneM_skip h t (fun q hq => ?_) hrun
          rcases hq with hq | hq
          · exact .inl hq
          · obtain ⟨_, _, _, hlc⟩ := tk.arr q hq
            exact .inr (by rw [hH _ _ hlc]; rfl)
        cases hw : (Nat.beq off 0 && Nat.beq cs.length e.n) with
        | true =>
          rw [hw, cond_true] at hl
          simp only [Bool.and_eq_true] at hw
          obtain rfl := Nat.eq_of_beq_eq_true hw.1
          have hcn := Nat.eq_of_beq_eq_true hw.2
          simp only [Option.bind_eq_some_iff] at hl
          obtain ⟨⟨x', rest, H1⟩, htk, hl⟩ := hl
          obtain ⟨v1, v2, C, hvs, tk, o1, h2⟩ := takeN_rel h.hr hH htk hys
          simp only at hl
          split at hl
          · obtain rfl : _ = out := by simpa using hl
            obtain ⟨rfl, rfl⟩ := hg
            have : v2 = [] := by cases v2 with | nil => rfl | cons _ _ => exact h2.elim
            subst this
            rw [List.append_nil] at hvs
            refine main x' H1 C tk (by omega) fun c T hc hd => ⟨fps g C, ?_, fun q hq => .inr hq⟩
            have hcl := hc.len
            have hyl' : (a.eval y).cells.toList.length = cs.length := by simpa using hyl
            rw [List.take_zero, List.nil_append, List.drop_of_length_le (by omega), List.append_nil, hvs]
            exact o1
          · cases hl
        | false =>
          rw [hw, cond_false] at hl
          split at hl
          · rename_i c1
            simp only [cond_none, Option.bind_eq_some_iff, Option.some.injEq] at hl
            obtain ⟨hb, ⟨x', H1⟩, hup, rfl⟩ := hl
            obtain ⟨rfl, rfl⟩ := hg
            have hlt : off < e.n := by simp only [Nat.blt, Nat.ble_eq] at hb; omega
            obtain ⟨u, hu⟩ : ∃ u, (a.eval y).cells.toList = [u] := by
              match (a.eval y).cells.toList, hys with
              | [u], _ => exact ⟨u, rfl⟩
            have hyu : CVRel w (okB w g (look H)) g (look H) c1 u := by
              rw [hu] at hys
              exact hys.1
            obtain ⟨C, tk, hT⟩ := upd_rel h.hr hyu hH hup hlt
            refine main x' H1 C tk (by simp; omega) fun c T hc hd => ?_
            rw [hu]
            exact hT c T hc hd
          · cases hl
    · cases hl
  · cases hl
end Go.Proofs.YtglbaihiibdemaaGreatDoor.Am
