/- What is proved here: the methods of strings.Builder keep all that is not the builder's own (exact frames); strconv.Itoa's contract. -/
import Derived.Shelf.Strings.BuilderF
import Derived.Test.YtglbaihiibdemaaGreatDoorLay
import Derived.Test.YtglbaihiibdemaaGreatDoorAm28
set_option linter.unusedVariables false
namespace Go.Proofs.YtglbaihiibdemaaGreatDoor.Am
open Go Go.Shelf Go.RowKit
set_option autoImplicit false

/-- what is appended lies in the row that was there, or in a new one -/
theorem append_strF {P : Program} (w : World) (t u ty e : TypeId) (i : TypeInfo) (ht : P.underlying t = some (.slice e)) (hu : P.underlying u = some .string) (hi : P.info? e = some i) (hz : i.zero = some (.int .u8 0))
    (hsize : i.size = 1) (hby : i.bytes = 1) (v : Value) (n : Nat) (xs : List Value) (hown : w.ownsRowF 0 e 1 v n xs) (s : ByteArray) (h63 : n + s.size ≤ maxLen) (hbytes : n + s.size ≤ 140737488355328) :
    ∃ v' w', (Builtin.append_ #[t, u] ty #[v, .string s]).run P w = .ok v' w' ∧ w'.ownsRowF 0 e 1 v' (n + s.size) (xs ++ Lib.strCells s) ∧ w.grownBy w' v.ownBlock ∧ ∀ q ∈ v'.ownBlock.toList, q ∈ v.ownBlock.toList ∨ w.heap.size ≤ q := by
  obtain ⟨v', w', h1, h2, h3, _⟩ := Lib.run_append_own_stringF (P := P) w 0 t u ty e i ht hu hi hz hsize hby v n xs hown s h63 hbytes (Nat.zero_le _)
  refine ⟨v', w', h1, h2, h3, ?_⟩
  rcases hown.2 with ⟨rfl, rfl⟩ | ⟨g, cap, cur, fz, rfl, hbg, hg, hfz, hnc, hcm, hcs, htake⟩
  · obtain ⟨v1, w1, h4, h5, _, _⟩ := Lib.run_append_own_stringF (P := P) w w.heap.size t u ty e i ht hu hi hz hsize hby (.slice none 0 0) 0 xs ⟨hown.1, .inl ⟨rfl, rfl⟩⟩ s h63 hbytes (Nat.le_refl _)
    rw [h1] at h4
    injection h4 with h4 h6
    subst h4
    subst h6
    exact fun q hq => .inr (h5.lt q (by simpa using hq)).1
  · have hxl : xs.length = n := by simpa using hown.1
    by_cases hroom : n + s.size ≤ cap
    · have hcs' : cur.size = cap := by simpa using hcs
      have hr := Lib.run_append_room_stringF (P := P) w t u ty e i ht hu hi hsize g n cap cur fz hg (by simpa using hfz) s hroom (by omega)
      rw [h1] at hr
      injection hr with h4 h6
      subst h4
      exact fun q hq => .inl hq
    · have hr := Lib.run_append_grow_string (P := P) w t u ty e i (.int .u8 0) ht hu hi hz ⟨g, 0, none⟩ n cap xs (by rw [hsize]; simpa using hxl) (hown.cells (g := g) rfl) s (by omega) (by simp only [maxLen] at h63; omega) (by rw [hby]; exact growslice_fits (by omega) (by omega))
      rw [h1] at hr
      injection hr with h4 h6
      subst h4
      intro q hq
      simp [Value.ownBlock] at hq
      exact .inr (by omega)
theorem wp_append_strF {P : Program} {w : World} {ops : Array Oper} {rest : List Oper} {o : Oper} {a : Act} {Q : Exit → Act → World → Prop} (hgd : o.guard = none) (sl x : Operand) (t u : TypeId)
    (ho : o.op = .call { callee := .builtin .append, args := #[sl, x], argTypes := #[t, u] }) (e : TypeId) (i : TypeInfo) (ht : P.underlying t = some (.slice e)) (hu : P.underlying u = some .string) (hi : P.info? e = some i) (hz : i.zero = some (.int .u8 0))
    (hsize : i.size = 1) (hby : i.bytes = 1) (v : Value) (n : Nat) (xs : List Value) (hs : a.eval sl = v) (hown : w.ownsRowF 0 e 1 v n xs) (s : ByteArray) (hx : a.eval x = .string s) (h63 : n + s.size ≤ maxLen) (hbytes : n + s.size ≤ 140737488355328)
    (h : ∀ v' w', w'.ownsRowF 0 e 1 v' (n + s.size) (xs ++ Lib.strCells s) → w.grownBy w' v.ownBlock → (∀ q ∈ v'.ownBlock.toList, q ∈ v.ownBlock.toList ∨ w.heap.size ≤ q) → wpList P ops Q rest (a.put o.dst v') w') : wpList P ops Q (o :: rest) a w := by
  refine wpList_plain hgd fun K hK => ?_
  obtain ⟨v', w', hr, h2, h3, h4⟩ := append_strF (P := P) w t u o.type e i ht hu hi hz hsize hby v n xs hown s h63 hbytes
  unfold Oper.wp execOp
  simp only [ho, resolve, invoke, builtin, Sem.run_bind, Sem.run_pure, Result.andThen_ok, List.map_toArray, List.map_cons, List.map_nil, hs, hx, hr]
  exact hK _ _ (h v' w' h2 h3 h4)

theorem kept_setCell {w : World} {b i : Nat} {v : Value} : Kept [b] w (w.setCell ⟨b, i, none⟩ v) :=
  ⟨rfl, rfl, rfl, by simp [World.setCell], fun k _ hk => Below.heap_setCell _ _ _ _ (fun e => hk (by simp [e]))⟩
theorem kept_freeze {w : World} {g n : Nat} : Kept [g] w (w.freeze ⟨g, 0, none⟩ n) := by
  unfold World.freeze
  split
  · exact Kept.refl _ _
  · exact ⟨rfl, rfl, rfl, by simp, fun k _ hk => by
      simp only [Array.getElem?_modify]
      rw [if_neg (fun e => hk (by simp [e]))]⟩
theorem kept_grown {w w' : World} {r : Option Nat} (h : w.grownBy w' r) : Kept r.toList w w' := ⟨h.os, h.tape, h.output, h.size, fun k hk hm => h.block k hk (fun e => hm (by simp [← e]))⟩

set_option maxHeartbeats 1000000 in
set_option maxRecDepth 100000 in
theorem cc_used (b : Nat) (w : World) (h0 : w.cell? ⟨b, 0, none⟩ = some (.pointer (some ⟨b, 0, none⟩))) :
    Calls Tryz.prog 92 #[.pointer (some ⟨b, 0, none⟩)] w fun e w' => e = .returned (.tuple #[]) ∧ w' = w := by
  obtain ⟨j, hj, _⟩ := Option.map_eq_some_iff.1 (show (Tryz.prog.info? 140).map (·.size) = some 2 from by kernel_rfl)
  go_enter Tryz.func92, Tryz.ntmps92
  go_wp2
  rw [Lib.run_neq_ptr_same w _ Tryz.underlying138 hj]
  go_wp2
  go_end0
  exact ⟨rfl, rfl⟩

set_option maxHeartbeats 1000000 in
set_option maxRecDepth 100000 in
theorem cc_fresh (b : Nat) (w : World) (h0 : w.cell? ⟨b, 0, none⟩ = some (.pointer none)) (hsh : w.shape? b = some (140, 2)) (hfz : w.frozen? ⟨b, 0, none⟩ = false) :
    Calls Tryz.prog 92 #[.pointer (some ⟨b, 0, none⟩)] w fun e w' => e = .returned (.tuple #[]) ∧ w' = w.setCell ⟨b, 0, none⟩ (.pointer (some ⟨b, 0, none⟩)) := by
  obtain ⟨j, hj, hjs⟩ := Option.map_eq_some_iff.1 (show (Tryz.prog.info? 140).map (·.size) = some 2 from by kernel_rfl)
  go_enter Tryz.func92, Tryz.ntmps92
  go_wp2
  rw [Lib.run_to_unsafe w ⟨b, 0, none⟩ Tryz.underlying138 Tryz.underlying207 hj (by rw [hjs]; decide) hsh (Nat.zero_lt_succ 1)]
  simp only [Result.andThen]
  rw [Oper.upon_value]
  go_wp2
  rw [run_callFunc_extern Tryz.func109 (by kernel_rfl) (by kernel_rfl) (by kernel_rfl) (e := Extern.AbiNoEscape.same) (by kernel_rfl)]
  rw [Lib.run_noEscape]
  simp only [Result.andThen]
  rw [Oper.upon_value]
  go_wp2
  rw [Lib.run_from_unsafe w ⟨b, 0, none⟩ Tryz.underlying207 Tryz.underlying138 hj hsh (by kernel_rfl)]
  simp only [Result.andThen]
  rw [Oper.upon_value]
  go_wp2
  go_end0
  exact ⟨rfl, rfl⟩
abbrev BF (b : Nat) (bs : List Value) (w : World) : Prop := Lib.IsBuilderF 140 5 0 b bs w
theorem cc_any (b : Nat) (bs : List Value) (v : Value) (w : World) (h : BF b bs w) (hv : w.cell? ⟨b, 1, none⟩ = some v) :
    Calls Tryz.prog 92 #[.pointer (some ⟨b, 0, none⟩)] w fun e w' => e = .returned (.tuple #[]) ∧ w'.heap[b]? = some (.cells #[.pointer (some ⟨b, 0, none⟩), v] 140 (0, 0)) ∧ w'.ownsRowF 0 5 1 v bs.length bs ∧ v.ownBlock ≠ some b ∧ Kept [b] w w' := by
  have key : ∀ {p : Value} {w' : World}, Lib.BuilderAtF 140 5 0 b p bs w' → w'.cell? ⟨b, 1, none⟩ = some v → w'.heap[b]? = some (.cells #[p, v] 140 (0, 0)) ∧ w'.ownsRowF 0 5 1 v bs.length bs ∧ v.ownBlock ≠ some b := by
    rintro p w' ⟨_, v', hb, ho, hne⟩ hv'
    rw [Lib.cell_of_heap hb] at hv'
    simp at hv'
    subst hv'
    exact ⟨hb, ho, hne⟩
  rcases h with h | h
  · refine (cc_fresh b w h.cell0 h.shape h.frozen0).mono ?_
    rintro e w' ⟨rfl, rfl⟩
    have h2 := key (h.used (.pointer (some ⟨b, 0, none⟩))) (by
      obtain ⟨_, v', hb, _⟩ := h
      rw [Lib.cell_of_heap hb] at hv
      rw [World.setCell, World.cell?]
      simp only [Array.getElem?_modify, hb]
      simpa using hv)
    exact ⟨rfl, h2.1, h2.2.1, h2.2.2, kept_setCell⟩
  · refine (cc_used b w h.cell0).mono ?_
    rintro e w' ⟨rfl, rfl⟩
    have h2 := key h hv
    exact ⟨rfl, h2.1, h2.2.1, h2.2.2, Kept.refl _ _⟩
theorem bldAt_iff {X : Ctx} (h1 : X.bld = 140) (h2 : X.u8 = 5) {w : World} {b : Nat} {bs : List UInt8} {v : Value} : BldAt X w b bs v ↔ (BF b (byteVals bs) w ∧ w.cell? ⟨b, 1, none⟩ = some v) := by
  constructor
  · rintro ⟨p, hp, hb, ho, hn⟩
    rw [h1] at hb
    rw [h2] at ho
    have hne : v.ownBlock ≠ some b := fun e => by simp [e] at hn
    have ho' : w.ownsRowF 0 5 1 v (byteVals bs).length (byteVals bs) := by simpa [byteVals] using ho
    refine ⟨?_, by rw [Lib.cell_of_heap hb]; rfl⟩
    rcases hp with rfl | rfl
    · exact .inl ⟨Nat.zero_le _, v, hb, ho', hne⟩
    · exact .inr ⟨Nat.zero_le _, v, hb, ho', hne⟩
  · rintro ⟨h, hv⟩
    have key : ∀ {p : Value}, (p = .pointer none ∨ p = .pointer (some ⟨b, 0, none⟩)) → Lib.BuilderAtF 140 5 0 b p (byteVals bs) w → BldAt X w b bs v := by
      rintro p hp ⟨_, v', hb, ho, hne⟩
      rw [Lib.cell_of_heap hb] at hv
      simp at hv
      subst hv
      refine ⟨p, hp, by rw [h1]; exact hb, by rw [h2]; simpa [byteVals] using ho, ?_⟩
      cases hq : v'.ownBlock with
      | none => simp
      | some q => simp; exact fun e => hne (by rw [hq, e])
    rcases h with h | h
    · exact key (.inl rfl) h
    · exact key (.inr rfl) h
set_option maxHeartbeats 2000000 in
set_option maxRecDepth 100000 in
theorem bldWrite (X : Ctx) (hP : X.P = Tryz.prog) (h1 : X.bld = 140) (h2 : X.u8 = 5) : BldWriteOk X 65 := by
  intro w b bs s v hB hlen
  rw [hP]
  obtain ⟨hbf, hv⟩ := (bldAt_iff h1 h2).1 hB
  obtain ⟨i0, hi, hz0, hz1, hz2⟩ := info_parts (show (Tryz.prog.info? 5).map (fun i => (i.zero, i.size, i.bytes)) = some (some (.int .u8 0), 1, 1) from by kernel_rfl)
  have hss : (⟨⟨s⟩⟩ : ByteArray).size = s.length := rfl
  have hbl : (byteVals bs).length = bs.length := by simp [byteVals]
  have hsc : Lib.strCells ⟨⟨s⟩⟩ = byteVals s := by simp [Lib.strCells, byteVals]
  go_enter Tryz.func65, Tryz.ntmps65
  go_wp2_with (go_at_call 92; refine (cc_any b _ v _ hbf hv).mono ?_)
  rintro e w1 ⟨rfl, hbk, hown, hne, hk1⟩
  have c0 : w1.cell? ⟨b, 0, none⟩ = some (.pointer (some ⟨b, 0, none⟩)) := by rw [Lib.cell_of_heap hbk]; rfl
  have c1 : w1.cell? ⟨b, 1, none⟩ = some v := by rw [Lib.cell_of_heap hbk]; rfl
  go_wp2_with (at_builtin; refine wp_append_strF rfl _ _ 89 9 rfl 5 i0 Tryz.underlying89 Tryz.underlying9 hi hz0 hz1 hz2 _ _ _ rfl hown ⟨⟨s⟩⟩ rfl ?c3 ?c4 ?_)
  case c3 => rw [hss, hbl]; unfold maxLen; omega
  case c4 => rw [hss, hbl]; omega
  intro v' w2 hown' hgrow hnew
  have hlt : b < w1.heap.size := (Array.getElem?_eq_some_iff.1 hbk).1
  have hb2 : w2.heap[b]? = some (.cells #[.pointer (some ⟨b, 0, none⟩), v] 140 (0, 0)) := by
    rw [hgrow.block b hlt (fun e => hne e.symm)]
    exact hbk
  have d0 : w2.cell? ⟨b, 0, none⟩ = some (.pointer (some ⟨b, 0, none⟩)) := by rw [Lib.cell_of_heap hb2]; rfl
  have d1 : w2.cell? ⟨b, 1, none⟩ = some v := by rw [Lib.cell_of_heap hb2]; rfl
  have f1 : w2.frozen? ⟨b, 1, none⟩ = false := Lib.frozen_of_heap hb2 1
  obtain ⟨ao, n', cap, rfl⟩ : ∃ ao n' cap, v' = .slice ao n' cap := by
    rcases hown'.2 with ⟨hv, _⟩ | ⟨g, cap, cur, fz, hv, _⟩
    · exact ⟨_, _, _, hv⟩
    · exact ⟨_, _, _, hv⟩
  go_wp2
  go_ret2
  refine ⟨rfl, ?_, ?_⟩
  · refine ((hk1.mono (M' := b :: v.ownBlock.toList) (by simp)).trans ((kept_grown hgrow).mono (M' := b :: v.ownBlock.toList) fun x hx => List.mem_cons_of_mem _ hx) (fun _ h => h) fun _ h _ => h).trans (kept_setCell.mono (M' := b :: v.ownBlock.toList) (by simp)) (fun _ h => h) fun _ h _ => h
  · have hlen2 : byteVals (bs ++ s) = byteVals bs ++ byteVals s := by simp [byteVals]
    have hown2 : w2.ownsRowF 0 5 1 (.slice ao n' cap) (byteVals (bs ++ s)).length (byteVals (bs ++ s)) := by
      rw [hlen2]
      simpa [hsc, hss, byteVals] using hown'
    have hB2 := Lib.BuilderAtF.put (B := 0) (Nat.zero_le _) hb2 hown2 (by decide)
    refine ⟨.slice ao n' cap, (bldAt_iff h1 h2).2 ⟨.inr hB2, ?_⟩, fun q hq => ?_⟩
    · rw [World.setCell, World.cell?]
      simp only [Array.getElem?_modify, hb2]
      simp
    · rcases hnew q (by simpa using hq) with h | h
      · exact .inl (by simpa using h)
      · exact .inr (Nat.le_trans hk1.size h)

/-- what is left of a builder that was read -/
theorem bld_post {X : Ctx} (h1 : X.bld = 140) (h2 : X.u8 = 5) {w w' : World} {b : Nat} {bs : List UInt8} {v : Value} (hne : v.ownBlock ≠ some b) (hv : w.cell? ⟨b, 1, none⟩ = some v) (hk : Kept v.ownBlock.toList w w') (hb : BF b (byteVals bs) w') (hlt : b < w.heap.size) :
    Kept (b :: v.ownBlock.toList) w w' ∧ ∃ v', BldAt X w' b bs v' ∧ ∀ q ∈ v'.ownBlock.toList, q ∈ v.ownBlock.toList ∨ w.heap.size ≤ q := by
  refine ⟨hk.mono fun x hx => List.mem_cons_of_mem _ hx, v, (bldAt_iff h1 h2).2 ⟨hb, ?_⟩, fun q hq => .inl hq⟩
  rw [World.cell?_of_block (w := w) (a := ⟨b, 1, none⟩) (hk.block b hlt (by cases hq : v.ownBlock with | none => simp | some q => simp; exact fun e => hne (by rw [hq, e]))), hv]
set_option maxHeartbeats 2000000 in
set_option maxRecDepth 100000 in
theorem bldString (X : Ctx) (hP : X.P = Tryz.prog) (h1 : X.bld = 140) (h2 : X.u8 = 5) : BldStringOk X 66 := by
  intro w b bs v hB
  rw [hP]
  have mixed : Tryz.prog.follows .mixedOrders = true := by kernel_rfl
  obtain ⟨hbf, hv⟩ := (bldAt_iff h1 h2).1 hB
  obtain ⟨p, hp, hbk, hown, hnd⟩ := hB
  rw [h1] at hbk
  rw [h2] at hown
  have hne : v.ownBlock ≠ some b := fun e => by simp [e] at hnd
  have hlt : b < w.heap.size := (Array.getElem?_eq_some_iff.1 hbk).1
  have hbl : (byteVals bs).length = bs.length := by simp [byteVals]
  have hA : Lib.BuilderAtF 140 5 0 b p (byteVals bs) w := ⟨Nat.zero_le _, v, hbk, by rw [hbl]; exact hown, hne⟩
  have hbf' : ∀ {w' : World}, Lib.BuilderAtF 140 5 0 b p (byteVals bs) w' → BF b (byteVals bs) w' := by
    intro w' h
    rcases hp with rfl | rfl
    · exact .inl h
    · exact .inr h
  by_cases h0 : bs = []
  · subst h0
    rcases hown.2 with ⟨rfl, _⟩ | ⟨g, cap, cur, fz, rfl, _, hg, _, _, _, _, _⟩
    · have hUS : ∀ W : World, (Builtin.unsafeString_ #[172, 3] 9 #[.pointer none, .int .i64 0]).run Tryz.prog W = .ok (.string .empty) W := fun W => Lib.run_unsafeString_none W _ _ _ none
      have fin := bld_post (w' := w.drew) h1 h2 hne hv (Kept.drew _ _) (hbf' hA.drew) hlt
      have c1 : w.drew.cell? ⟨b, 1, none⟩ = some (.slice none 0 0) := hv
      have hSD : (Builtin.unsafeSliceData_ #[89] 172 #[.slice none 0 0]).run Tryz.prog w.drew = .ok (.pointer none) w.drew := rfl
      clear hA hbf hbf' hown hbk
      go_enter Tryz.func66, Tryz.ntmps66
      go_wp2
      go_region_o
      all_goals (go_wp2; go_ret; exact ⟨rfl, fin⟩)
    · have hUS : ∀ (W : World) (q : Option Addr), (Builtin.unsafeString_ #[172, 3] 9 #[.pointer q, .int .i64 0]).run Tryz.prog W = .ok (.string .empty) W := fun W q => Lib.run_unsafeString_none W _ _ _ q
      by_cases hc0 : cap = 0
      · subst hc0
        have fin := bld_post (w' := w.drew.alloc (.view ⟨g, 0, none⟩ 5)) h1 h2 hne hv ((Kept.drew _ _).trans (Kept.alloc _ _ _) (fun _ h => h) (fun _ h _ => h)) (hbf' (hA.drew.alloc _)) hlt
        have c1 : w.drew.cell? ⟨b, 1, none⟩ = some (.slice (some ⟨g, 0, none⟩) 0 0) := hv
        have hSD : (Builtin.unsafeSliceData_ #[89] 172 #[.slice (some ⟨g, 0, none⟩) 0 0]).run Tryz.prog w.drew = .ok (.pointer (some ⟨w.drew.heap.size, 0, none⟩)) (w.drew.alloc (.view ⟨g, 0, none⟩ 5)) :=
          Lib.run_unsafeSliceData_zero w.drew _ _ 5 Tryz.underlying172 ⟨g, 0, none⟩ 0 (5, cur.size) (by have hg' : w.drew.heap[g]? = some (.cells cur 5 fz) := hg; simp [World.shape?, hg'])
        have c2 : (w.drew.alloc (.view ⟨g, 0, none⟩ 5)).cell? ⟨b, 1, none⟩ = some (.slice (some ⟨g, 0, none⟩) 0 0) := by
          have : (w.drew.alloc (.view ⟨g, 0, none⟩ 5)).heap[b]? = _ := (Lib.alloc_old w.drew _ b hlt).trans hbk
          rw [Lib.cell_of_heap this]; rfl
        have c3 : (w.alloc (.view ⟨g, 0, none⟩ 5)).drew.cell? ⟨b, 1, none⟩ = some (.slice (some ⟨g, 0, none⟩) 0 0) := c2
        have c0 : w.cell? ⟨b, 1, none⟩ = some (.slice (some ⟨g, 0, none⟩) 0 0) := c1
        clear hA hbf hbf' hown hbk
        go_enter Tryz.func66, Tryz.ntmps66
        go_wp2
        go_region_o
        all_goals (go_wp2; go_ret; exact ⟨rfl, fin⟩)
      · have fin := bld_post (w' := w.drew) h1 h2 hne hv (Kept.drew _ _) (hbf' hA.drew) hlt
        have c1 : w.drew.cell? ⟨b, 1, none⟩ = some (.slice (some ⟨g, 0, none⟩) 0 cap) := hv
        have hSD : (Builtin.unsafeSliceData_ #[89] 172 #[.slice (some ⟨g, 0, none⟩) 0 cap]).run Tryz.prog w.drew = .ok (.pointer (some ⟨g, 0, none⟩)) w.drew :=
          Lib.run_unsafeSliceData_row _ _ _ _ _ _ hc0
        clear hc0 hA hbf hbf' hown hbk
        go_enter Tryz.func66, Tryz.ntmps66
        go_wp2
        go_region_o
        all_goals (go_wp2; go_ret; exact ⟨rfl, fin⟩)
  · have hl0 : bs.length ≠ 0 := by simpa using h0
    obtain ⟨g, cap, cur, fz, rfl, hg, hnc, hcm, hcs⟩ : ∃ g cap cur fz, v = .slice (some ⟨g, 0, none⟩) bs.length cap ∧ w.heap[g]? = some (.cells cur 5 fz) ∧ bs.length ≤ cap ∧ cap ≤ maxLen ∧ cur.size = cap * 1 := by
      rcases hown.2 with ⟨_, hz⟩ | ⟨g, cap, cur, fz, hv, _, hg, _, h3, h4, h5, _⟩
      · exact absurd hz hl0
      · exact ⟨g, cap, cur, fz, hv, hg, h3, h4, h5⟩
    have c1 : w.drew.cell? ⟨b, 1, none⟩ = some (.slice (some ⟨g, 0, none⟩) bs.length cap) := hv
    have hSD : (Builtin.unsafeSliceData_ #[89] 172 #[.slice (some ⟨g, 0, none⟩) bs.length cap]).run Tryz.prog w.drew = .ok (.pointer (some ⟨g, 0, none⟩)) w.drew :=
      Lib.run_unsafeSliceData_row _ _ _ _ _ _ (by omega)
    have hUS : (Builtin.unsafeString_ #[172, 3] 9 #[.pointer (some ⟨g, 0, none⟩), .int .i64 bs.length]).run Tryz.prog w.drew = .ok (.string ⟨bs.toArray⟩) (w.drew.freeze ⟨g, 0, none⟩ bs.length) := by
      refine Lib.run_unsafeString_row w.drew 172 3 9 5 Tryz.underlying172 (by kernel_rfl) g cur.size (by have hg' : w.drew.heap[g]? = some (.cells cur 5 fz) := hg; simp [World.shape?, hg']) bs h0 (by omega) (by unfold maxLen at hcm; omega) ?_
      intro j x hx
      exact hown.cells (g := g) rfl j (.int .u8 x.toNat) (by simp [byteVals, hx])
    have hF := hA.drew.froze (g := g) (cap := cap) (by rw [hbl]; exact c1)
    rw [hbl] at hF
    have fin := bld_post (w' := w.drew.freeze ⟨g, 0, none⟩ bs.length) h1 h2 hne hv ((Kept.drew _ _).trans kept_freeze (fun _ h => h) (fun _ h _ => by simpa [Value.ownBlock] using h)) (hbf' hF) hlt
    clear hF hA hbf hbf' hown hbk
    go_enter Tryz.func66, Tryz.ntmps66
    go_wp2
    go_region_o
    all_goals (go_wp2; go_ret; exact ⟨rfl, fin⟩)
end Go.Proofs.YtglbaihiibdemaaGreatDoor.Am
