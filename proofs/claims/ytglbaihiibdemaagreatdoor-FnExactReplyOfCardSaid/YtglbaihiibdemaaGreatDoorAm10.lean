/- What is proved here: literals of structs and slices; then all operations that change nothing that is there. -/
import Derived.Test.YtglbaihiibdemaaGreatDoorAm9
namespace Go.Proofs.YtglbaihiibdemaaGreatDoor.Am
open Go
set_option autoImplicit false
variable {X : Ctx} {mine : Nat → Prop} {w w' : World} {g g' : Gh} {lk lk' : Nat → Option AObj} {E : Env} {a : Act} {n : Nat} {o : Oper}

theorem foldl_set (off : Nat) : ∀ (l : List Value) (k : Nat) (cs : Array Value), off + k + l.length ≤ cs.size →
    (l.zipIdx k).foldl (fun cs p => cs.setIfInBounds (off + p.2) p.1) cs = (cs.toList.take (off + k) ++ l ++ cs.toList.drop (off + k + l.length)).toArray
  | [], k, cs, _ => by simp
  | v :: l, k, cs, h => by
    have hlt : off + k < cs.size := by simp at h; omega
    rw [List.zipIdx_cons, List.foldl_cons, foldl_set off l (k + 1) _ (by simp at h ⊢; omega)]
    apply Array.ext'
    simp only [List.length_cons, Array.toList_setIfInBounds]
    have hl : off + k < cs.toList.length := by simpa using hlt
    generalize cs.toList = L at *
    rw [List.set_eq_take_append_cons_drop, if_pos hl]
    have hlen : (L.take (off + k)).length = off + k := by rw [List.length_take]; omega
    have e1 : (L.take (off + k) ++ v :: L.drop (off + k + 1)).take (off + (k + 1)) = L.take (off + k) ++ [v] := by
      rw [List.take_append, hlen, List.take_of_length_le (by omega), show off + (k + 1) - (off + k) = 1 from by omega]
      rfl
    have e2 : (L.take (off + k) ++ v :: L.drop (off + k + 1)).drop (off + (k + 1) + l.length) = L.drop (off + k + (l.length + 1)) := by
      rw [List.drop_append, hlen, List.drop_of_length_le (by omega), show off + (k + 1) + l.length - (off + k) = l.length + 1 from by omega, List.drop_succ_cons, List.drop_drop, List.nil_append]
      congr 1
      omega
    rw [e1, e2]
    simp
theorem fill_step (place : Nat → Option (Nat × Nat)) (cs : Array Value) (i : Nat) (v : Value) (r : List (Nat × Value)) {off : Nat} (hp : place i = some (off, v.cells.size)) (hle : off + v.cells.size ≤ cs.size) :
    Instr.fill place cs ((i, v) :: r) = Instr.fill place (cs.toList.take off ++ v.cells.toList ++ cs.toList.drop (off + v.cells.size)).toArray r := by
  have h1 : ¬ (v.cells.size ≠ v.cells.size ∨ off + v.cells.size > cs.size) := by omega
  have h2 := foldl_set off v.cells.toList 0 cs (by simpa using hle)
  simp only [Nat.add_zero, Array.length_toList] at h2
  have h3 : v.cells.zipIdx.foldl (fun cs (x : Value × Nat) => match x with | (c, j) => cs.setIfInBounds (off + j) c) cs = (cs.toList.take off ++ v.cells.toList ++ cs.toList.drop (off + v.cells.size)).toArray := by
    rw [← h2, ← Array.foldl_toList, Array.toList_zipIdx]
  conv => lhs; unfold Instr.fill
  simp only [hp]
  rw [if_neg (by simpa using hle), h3]
theorem places_run {P : Program} : ∀ (l : List Field), (l.all fun f => (tsize P f.type).isSome) = true → ∃ ps : List (Nat × Nat), (l.mapM (m := Sem) fun (f : Field) => do pure (f.offset, ← sizeOf f.type)).run P w = .ok ps w ∧ ∀ i : Nat, ps[i]? = (l[i]?).bind fun (f : Field) => (tsize P f.type).map fun sz => (f.offset, sz)
  | [], _ => ⟨[], rfl, fun i => by simp⟩
  | f :: l, h => by
    simp only [List.all_cons, Bool.and_eq_true] at h
    obtain ⟨sz, hsz⟩ := Option.isSome_iff_exists.1 h.1
    obtain ⟨ps, h1, h2⟩ := places_run l h.2
    refine ⟨(f.offset, sz) :: ps, ?_, fun i => ?_⟩
    · simp only [List.mapM_cons, Sem.run_bind, tsize_run hsz, Result.andThen_ok, Sem.run_pure]
      rw [show (l.mapM (m := Sem) fun (f : Field) => do let a ← sizeOf f.type; pure (f.offset, a)).run P w = .ok ps w from h1]
      rfl
    · cases i with
      | zero => simp [hsz]
      | succ i => simpa using h2 i
theorem fill_struct {P : Program} {fs : Array Field} {place : Nat → Option (Nat × Nat)} (hp : ∀ i, place i = (fs[i]?).bind fun (f : Field) => (tsize P f.type).map fun sz => (f.offset, sz)) (h : Good X mine w g lk E a) :
    ∀ {parts : List (Nat × Operand)} {z : List CV} {vs : Array Value} {cs : List CV}, fillC fs P z (parts.map fun p => (p.1, E.ev p.2)) = some cs → All2 (CVRel w (okB w g lk) g lk) z vs.toList →
    ∃ us : Array Value, Instr.fill place vs (parts.map fun p => (p.1, a.eval p.2)) = some us ∧ All2 (CVRel w (okB w g lk) g lk) cs us.toList
  | [], z, vs, cs, hf, hz => by
    obtain rfl : z = cs := by simpa [fillC] using hf
    exact ⟨vs, rfl, hz⟩
  | (i, x) :: r, z, vs, cs, hf, hz => by
    simp only [List.map_cons, fillC] at hf
    split at hf
    · rename_i f ds hfi hds
      rw [cond_none] at hf
      obtain ⟨hb, hf⟩ := hf
      simp only [Bool.and_eq_true, beq_iff_eq, Nat.ble_eq] at hb
      have hd := cells_rel (h.ev x) hds
      have hlen := hd.len
      have hzl := hz.len
      simp only [Array.length_toList] at hlen hzl
      have hpl : place i = some (f.offset, (a.eval x).cells.size) := by rw [hp, hfi]; simp [hb.1, hlen]
      rw [List.map_cons, fill_step place vs i (a.eval x) _ hpl (by omega)]
      refine fill_struct hp h hf ?_
      have := ((hz.take f.offset).append hd).append (hz.drop (f.offset + ds.length))
      rw [hlen] at this
      simpa [hlen] using this
    · cases hf
theorem build_sound (h : Good X mine w g lk E a) {t : TypeId} {parts : Array (Nat × Operand)} (ho : o.op = .build t parts) {fs : Array Field} (ht : X.P.underlying t = some (.struct fs)) (hall : (fs.toList.all fun f => (tsize X.P f.type).isSome) = true) {z cs : List CV} (hz : zeroCells X.P t = some z)
    (hf : fillC fs X.P z (parts.toList.map fun p => (p.1, E.ev p.2)) = some cs) : Done X mine w g lk a n o (.mix cs) [] := by
  obtain ⟨i, zv, hi, hzv, hzr⟩ := zero_rel hz w (okB w g lk) g lk
  obtain ⟨ps, h1, h2⟩ := places_run (w := w) fs.toList hall
  obtain ⟨us, h3, h4⟩ := fill_struct (P := X.P) (fs := fs) (place := (ps.toArray[·]?)) (fun i => by simpa using h2 i) h hf hzr
  refine done_quiet h (v' := .agg us) ?_ ⟨us, rfl, h4⟩
  have h5 : (fs.mapM (m := Sem) fun (f : Field) => do pure (f.offset, ← sizeOf f.type)).run X.P w = .ok ps.toArray w := by
    rw [← Array.toArray_toList (xs := fs), List.mapM_toArray]
    simp only [Sem.run_map, h1, Result.andThen_ok]
  have h6 : (parts.map fun x => match x with | (i, x) => (i, a.eval x)).toList = parts.toList.map fun p => (p.1, a.eval p.2) := by simp
  have hzr : (zeroValue t).run X.P w = .ok zv w := by simp [zeroValue, typeInfo, hi, hzv]
  simp only [execOp, ho, Instr.build, Sem.run_bind, Result.andThen_ok, hzr, Sem.run_pure, run_underlying ht]
  erw [h5]
  simp only [Result.andThen_ok, h6, h3, Sem.run_pure]

/-! ### slices' literals -/
theorem fill_seq (k : Nat) : ∀ (parts : List (Nat × Value)) (i : Nat) (pre rest : List Value), pre.length = i * k → rest.length = parts.length * k → (∀ (j : Nat) (p : Nat × Value), parts[j]? = some p → p.1 = i + j ∧ p.2.cells.size = k) →
    Instr.fill (fun i => some (i * k, k)) (pre ++ rest).toArray parts = some (pre ++ (parts.flatMap fun p => p.2.cells.toList)).toArray
  | [], i, pre, rest, _, hr, _ => by
    have : rest = [] := List.eq_nil_of_length_eq_zero (by simpa using hr)
    subst this
    simp [Instr.fill]
  | (j, v) :: r, i, pre, rest, hp, hr, h => by
    obtain ⟨h1, h2⟩ := h 0 _ rfl
    simp only [Nat.add_zero] at h1 h2
    subst h1
    simp only [List.length_cons, Nat.succ_mul] at hr
    rw [fill_step _ _ j v r (off := j * k) (by rw [h2]) (by simp [hp, h2]; omega), h2]
    have e1 : (pre ++ rest).take (j * k) = pre := List.take_left' hp
    have e2 : (pre ++ rest).drop (j * k + k) = rest.drop k := by
      rw [List.drop_append, List.drop_of_length_le (by omega), hp, List.nil_append]
      congr 1
      omega
    rw [e1, e2, fill_seq k r (j + 1) (pre ++ v.cells.toList) (rest.drop k) (by simp [hp, h2, Nat.succ_mul]) (by simp; omega) fun m p hm => by
      obtain ⟨h3, h4⟩ := h (m + 1) p (by simpa using hm)
      exact ⟨by omega, h4⟩]
    simp
theorem elems_rel (h : Good X mine w g lk E a) {e : Ty} : ∀ {parts : List (Nat × Operand)} {i : Nat} {xs : List e.den}, buildElems lk e i (parts.map fun p => (p.1, E.ev p.2)) = some xs →
    (∀ (j : Nat) (p : Nat × Operand), parts[j]? = some p → p.1 = i + j ∧ (a.eval p.2).cells.size = e.n) ∧ Rows (fun x c S => Rep w (fun b => b < w.heap.size) e x c ∧ S = []) xs (parts.flatMap fun p => (a.eval p.2).cells.toList) [] ∧ xs.length = parts.length
  | [], i, xs, hb => by
    obtain rfl : [] = xs := by simpa [buildElems] using hb
    exact ⟨fun j p h => by simp at h, ⟨rfl, rfl⟩, rfl⟩
  | (j, x) :: r, i, xs, hb => by
    simp only [List.map_cons, buildElems, cond_none, Nat.beq_eq, Option.bind_eq_some_iff] at hb
    obtain ⟨rfl, cs, hcs, ⟨y, rr⟩, hy, hb⟩ := hb
    have hc := cells_rel (h.ev x) hcs
    obtain ⟨v1, v2, hv, hrep, hrr⟩ := snapN_rep h.reads h.hr.dead hy hc
    simp only at hb
    split at hb
    · have : v2 = [] := by cases v2 with | nil => rfl | cons _ _ => exact hrr.elim
      subst this
      rw [List.append_nil] at hv
      simp only [Option.map_eq_some_iff] at hb
      obtain ⟨ys, hys, rfl⟩ := hb
      obtain ⟨h1, h2, h3⟩ := elems_rel h hys
      refine ⟨fun k p hk => ?_, ⟨v1, _, [], [], by rw [← hv]; simp, rfl, ⟨hrep, rfl⟩, h2⟩, by simp [h3]⟩
      cases k with
      | zero =>
        simp at hk; subst hk
        refine ⟨rfl, ?_⟩
        have := hrep.len
        rw [← hv] at this
        simpa using this
      | succ k =>
        obtain ⟨h4, h5⟩ := h1 k p (by simpa using hk)
        exact ⟨by omega, h5⟩
    · cases hb
theorem cellsB_rel (h : Good X mine w g lk E a) {k : Nat} : ∀ {parts : List (Nat × Operand)} {i : Nat} {cs : List CV}, buildCells k i (parts.map fun p => (p.1, E.ev p.2)) = some cs →
    (∀ (j : Nat) (p : Nat × Operand), parts[j]? = some p → p.1 = i + j ∧ (a.eval p.2).cells.size = k) ∧ All2 (CVRel w (okB w g lk) g lk) cs (parts.flatMap fun p => (a.eval p.2).cells.toList)
  | [], i, xs, hb => by
    obtain rfl : [] = xs := by simpa [buildCells] using hb
    exact ⟨fun j p h => by simp at h, trivial⟩
  | (j, x) :: r, i, xs, hb => by
    simp only [List.map_cons, buildCells, cond_none, Nat.beq_eq, Option.bind_eq_some_iff, Option.map_eq_some_iff] at hb
    obtain ⟨rfl, cs, hcs, rfl, ds, hds, rfl⟩ := hb
    have hc := cells_rel (h.ev x) hcs
    obtain ⟨h1, h2⟩ := cellsB_rel h hds
    refine ⟨fun m p hm => ?_, by simpa using hc.append h2⟩
    cases m with
    | zero =>
      simp at hm; subst hm
      exact ⟨rfl, by simpa using hc.len.symm⟩
    | succ m =>
      obtain ⟨h4, h5⟩ := h1 m p (by simpa using hm)
      exact ⟨by omega, h5⟩
theorem buildSlice_run {t el : TypeId} {parts : Array (Nat × Operand)} {len k : Nat} (ho : o.op = .buildSlice t len parts) (ht : telem X.P t = some el) (hs : tsize X.P el = some k) (hk : 0 < k) (h0 : 0 < len) (hlen : parts.size = len) (hbig : len * k ≤ 16777216) {i : TypeInfo} {z : Value} (hi : X.P.info? el = some i) (hz : i.zero = some z) (hzk : z.cells.size = k)
    (hp : ∀ (j : Nat) (p : Nat × Operand), parts.toList[j]? = some p → p.1 = 0 + j ∧ (a.eval p.2).cells.size = k) :
    (execOp a.eval o).run X.P w = .ok (.value (.slice (some ⟨w.heap.size, 0, none⟩) len len)) (w.alloc (.cells (parts.toList.flatMap fun p => (a.eval p.2).cells.toList).toArray el)) := by
  have h1 : ¬ 2 ^ 24 < len * k := by omega
  have h2 : ¬ len * k = 0 := by have := Nat.mul_pos h0 hk; omega
  have hf := fill_seq k (parts.toList.map fun p => (p.1, a.eval p.2)) 0 [] (((Array.range (len * k)).map fun j => z.cells[j % z.cells.size]!).toList) (by simp) (by simp [hlen]) (fun j p hj => by
    simp only [List.getElem?_map, Option.map_eq_some_iff] at hj
    obtain ⟨q, hq, rfl⟩ := hj
    exact hp j q hq)
  simp only [List.nil_append, Array.toArray_toList, List.flatMap_map] at hf
  have h6 : (parts.map fun x => match x with | (i, x) => (i, a.eval x)).toList = parts.toList.map fun p => (p.1, a.eval p.2) := by simp
  have hzr : (zeroValue el).run X.P w = .ok z w := by simp [zeroValue, typeInfo, hi, hz]
  rw [Array.toArray_toList] at hf
  simp only [execOp, ho, Instr.buildSlice, Sem.run_bind, run_underlying (elem_run ht), Result.andThen_ok, tsize_run hs, gt_iff_lt, if_neg h1, if_neg h2, Sem.run_pure, h6, hzr, Sem.run_map]
  rw [hf]
  simp [newRow]
theorem done_tsl (h : Good X mine w g lk E a) (hfree : lk n = none ∧ ¬ g.dead n) {tid len : Nat} {cs : List CV} {vs : List Value} (hv : All2 (CVRel w (okB w g lk) g lk) cs vs)
    (h1 : (execOp a.eval o).run X.P w = .ok (.value (.slice (some ⟨w.heap.size, 0, none⟩) len len)) (w.alloc (.cells vs.toArray tid))) : Done X mine w g lk a n o (.c (.tsl n len)) [.box tid cs] := by
  refine ⟨_, _, g.add n [(.pointer (some ⟨w.heap.size, 0, none⟩), [w.heap.size])], h1, ?_, ?_⟩
  · refine Grows.add (Kept.alloc _ _ _) rfl (fun i hi => ?_) h.hr.dead h.live (fun p hp b hb => ?_) ⟨by simp, by simp, trivial⟩ fun i x p hx hp hval hfp m => ?_
    · obtain rfl : i = 0 := by simpa using hi
      exact hfree
    · obtain rfl : p = _ := by simpa using hp
      obtain rfl : b = w.heap.size := by simpa using hb
      exact ⟨Nat.le_refl _, by simp, h.mine _ (Nat.le_refl _)⟩
    · obtain rfl : i = 0 := by have := (List.getElem?_eq_some_iff.1 hx).1; simpa using this
      obtain rfl : x = _ := by simpa using hx.symm
      obtain rfl : p = _ := by simpa using hp.symm
      exact ⟨w.heap.size, vs.toArray, hval, heap_alloc_new _ _, by simpa using hv.imp fun _ _ _ _ h => m.cv h, hfp⟩
  · exact ⟨⟨_, rfl⟩, .inr ⟨tid, cs, w.heap.size, by simp [lkAdd], by simp [Gh.add], rfl⟩⟩
theorem buildSlice_sound (h : Good X mine w g lk E a) (hfree : lk n = none ∧ ¬ g.dead n) {t el : TypeId} {parts : Array (Nat × Operand)} {len : Nat} (ho : o.op = .buildSlice t len parts) (ht : telem X.P t = some el) {e : Ty} (hs : tsize X.P el = some e.n) (h0 : len ≠ 0) (hlen : parts.size = len) (hbig : len * e.n ≤ 16777216) (hz : (zeroCells X.P el).isSome = true)
    (hzn : ∀ z, zeroCells X.P el = some z → z.length = e.n) {v : AV} {N : List AObj}
    (hv : (e.flat = true ∧ ∃ xs, buildElems lk e 0 (parts.toList.map fun p => (p.1, E.ev p.2)) = some xs ∧ v = .c (.ref n) ∧ N = [.arr el e xs]) ∨ (∃ cs, buildCells e.n 0 (parts.toList.map fun p => (p.1, E.ev p.2)) = some cs ∧ v = .c (.tsl n len) ∧ N = [.box el cs])) : Done X mine w g lk a n o v N := by
  obtain ⟨zc, hzc⟩ := Option.isSome_iff_exists.1 hz
  obtain ⟨i, z, hi, hzi, hzr⟩ := zero_rel hzc w (okB w g lk) g lk
  have hzk : z.cells.size = e.n := by rw [← hzn zc hzc]; simpa using hzr.len.symm
  rcases hv with ⟨hf, xs, hb, rfl, rfl⟩ | ⟨cs, hb, rfl, rfl⟩
  · obtain ⟨h1, h2, h3⟩ := elems_rel h hb
    have hrun := buildSlice_run (w := w) ho ht hs e.n_pos (by omega) hlen hbig hi hzi hzk h1
    have hxl : xs.length = len := by rw [h3]; simpa using hlen
    refine done_arr h hfree (Kept.alloc _ w _) (S := [w.heap.size]) (.inr ⟨w.heap.size, len, _, _, [], by rw [hxl], heap_alloc_new _ _, by omega, ?_, ?_, rfl, ?_, rfl, by simp⟩) (by simp) hrun
    · have := e.n_pos
      have : len ≤ len * e.n := Nat.le_mul_of_pos_right _ this
      simp [maxLen]; omega
    · have := h2.len (n := e.n) (fun x c S h => h.1.len)
      simpa [hxl] using this
    · have hl := h2.len (n := e.n) (fun x c S h => h.1.len)
      rw [List.take_of_length_le (by simp [hl])]
      simp only [List.toList_toArray]
      exact h2.imp' fun x c S hx => by obtain ⟨h4, rfl⟩ := hx; exact (own_of_rep_flat hf h4).still
  · obtain ⟨h1, h2⟩ := cellsB_rel h hb
    have hrun := buildSlice_run (w := w) ho ht hs e.n_pos (by omega) hlen hbig hi hzi hzk h1
    exact done_tsl h hfree h2 hrun
end Go.Proofs.YtglbaihiibdemaaGreatDoor.Am
