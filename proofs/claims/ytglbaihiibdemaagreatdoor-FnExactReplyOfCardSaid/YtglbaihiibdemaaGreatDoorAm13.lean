/- What is proved here: all operations that change nothing that is there, together. -/
import Derived.Test.YtglbaihiibdemaaGreatDoorAm12
namespace Go.Proofs.YtglbaihiibdemaaGreatDoor.Am
open Go
set_option autoImplicit false
variable {X : Ctx} {mine : Nat → Prop} {w w' : World} {g g' : Gh} {lk lk' : Nat → Option AObj} {E : Env} {a : Act} {n : Nat} {o : Oper}

/-- the source of an append, of data without slices -/
theorem srcOf_src (h : Good X mine w g lk E a) {e : Ty} (hf : e.flat = true) {u : TypeId} {y : Operand} {ys : List e.den} (hs : srcOf X.P lk e u (E.ev y) = some ys) : ∃ news, Src X.P w e.n ys.length u (a.eval y) news ∧ Rows (Own w e) ys news [] := by
  have h1 := h.ev y
  unfold srcOf at hs
  split at hs
  · rename_i eu c hu he
    rw [he] at h1
    have hr : Rep w (fun b => b < w.heap.size) (.sl 0 e) ys [a.eval y] := snap1_rep h.reads h.hr.dead hs h1
    obtain ⟨news, h2, h3⟩ := src_slice hr hu rfl
    exact ⟨news, h2, h3.imp' fun x c S hx => by obtain ⟨h4, rfl⟩ := hx; exact own_of_rep_flat hf h4⟩
  · rename_i s hu he
    rw [he] at h1
    have h1 : a.eval y = .string ⟨⟨s⟩⟩ := h1
    obtain ⟨rfl, hy⟩ := castL_some hs
    obtain rfl : ys = s.map fun b => (b.toNat : Int) := hy
    refine ⟨byteVals s, by rw [h1]; simpa [Ty.n] using src_string (w := w) (s := s) hu, ?_⟩
    have key : ∀ s : List UInt8, Rows (Own w (.int .u8)) (s.map fun b => (b.toNat : Int)) (byteVals s) [] := by
      intro s
      induction s with
      | nil => exact ⟨rfl, rfl⟩
      | cons b s ih => exact ⟨[.int .u8 b.toNat], byteVals s, [], [], by simp [byteVals], rfl, ⟨rfl, rfl⟩, ih⟩
    exact key s
  · cases hs
theorem optI_zero {E : Env} (h : Good X mine w g lk E a) {d : Int} {x : Option Operand} {r : Int} (hx : optI d E x = some r) (hr : r = 0) : (x = none ∧ d = 0) ∨ ∃ y k, x = some y ∧ a.eval y = .int k 0 := by
  rcases optI_val h hx with ⟨h1, h2⟩ | ⟨y, k, h1, h2⟩
  · exact .inl ⟨h1, by omega⟩
  · exact .inr ⟨y, k, h1, by rw [h2, hr]⟩
theorem sliceOk_some {P : Program} {t : TypeId} (h : sliceOk P t = true) : ∃ el, telem P t = some el ∧ (tsize P el).isSome = true := by
  unfold sliceOk at h
  split at h
  · exact ⟨_, by assumption, h⟩
  · cases h
theorem slice_sound (h : Good X mine w g lk E a) {t : TypeId} {x : Operand} {lo hi mx : Option Operand} (ho : o.op = .slice t x lo hi mx) {out : Out} (hl : opN X E lk n o = some out) {v : AV} {N : List AObj} (hg : out.gives v N) : Done X mine w g lk a n o v N := by
  simp only [opN, ho] at hl
  split at hl
  · rename_i s he
    simp only [cond_none, Bool.and_eq_true, Option.isNone_iff_eq_none, Option.bind_eq_some_iff, Option.some.injEq] at hl
    obtain ⟨⟨rfl, ht⟩, l, hl, u, hu, rfl⟩ := hl
    obtain ⟨hb, rfl, rfl⟩ := hg
    simp only [Bool.and_eq_true, decide_eq_true_eq] at hb
    refine slice_str h ho ?_ he hl hu hb.1.1 hb.1.2 hb.2
    split at ht
    · assumption
    · cases ht
  · rename_i e xs he
    rw [cond_none] at hl
    obtain ⟨ht, hl⟩ := hl
    simp only [Option.bind_eq_some_iff] at hl
    obtain ⟨l, hl, u, hu, hm⟩ := hl
    split at ht
    · rename_i el hel
      have ht : tsize X.P el = some e.n := by simpa using ht
      cases mx with
      | none =>
        simp only [Option.some.injEq] at hm
        obtain rfl := hm
        obtain ⟨hb, rfl, rfl⟩ := hg
        simp only [Bool.and_eq_true, decide_eq_true_eq] at hb
        exact slice_bor h ho hel he ht hl hu hb.1.1 hb.1.2 hb.2
      | some m =>
        simp only [Option.bind_eq_some_iff, cond_some, Bool.and_eq_true, decide_eq_true_eq] at hm
        obtain ⟨mm, hm, ⟨⟨⟨hhi, h1⟩, h2⟩, h3⟩, rfl⟩ := hm
        obtain ⟨rfl, rfl⟩ := hg
        have h4 := h.ev x
        rw [he] at h4
        obtain ⟨ad, cap, hv, _⟩ := h4
        refine slice_emp h ho hel (by simpa using hv) (by simp [ht]) ?_ ?_ ?_
        · rcases optI_zero h hl h1 with h5 | h5
          · exact .inl h5.1
          · exact .inr h5
        · rcases optI_zero h hu h2 with h5 | h5
          · exact .inl ⟨h5.1, by have := h5.2; omega⟩
          · exact .inr h5
        · rcases optI_zero h hm h3 with h5 | ⟨y, k, h5, h6⟩
          · simp at h5
          · exact .inr ⟨y, k, h5, by rintro rfl; simp at hhi, h6⟩
    · cases ht
  · rename_i p he
    split at hl
    · rename_i _ t' e xs m hp
      simp only [cond_none, Bool.and_eq_true, Option.bind_eq_some_iff] at hl
      obtain ⟨⟨hok, hhi⟩, l, hlo, u, hu, mm, hm, hl⟩ := hl
      simp only [decide_eq_true_eq, Option.some.injEq] at hl
      obtain ⟨⟨⟨h1, h2⟩, h3⟩, rfl⟩ := hl
      obtain ⟨rfl, rfl⟩ := hg
      obtain ⟨el, hel, hsz⟩ := sliceOk_some hok
      have h4 := h.ev x
      rw [he] at h4
      obtain ⟨_, h4⟩ := h4
      rcases h4 with h4 | ⟨_, _, _, _, hv⟩
      · rw [h.hr.dead _ h4] at hp; cases hp
      · have hown : Own w (.sl t' e) xs [g.val p] (g.fp p) := h.hr.obj _ _ hp
        obtain ⟨ad, cap, hv⟩ : ∃ ad cap, a.eval x = .slice ad xs.length cap := by
          rcases hown with ⟨ad, e1, hnil, _⟩ | ⟨gb, cap, cur, css, S', e1, _⟩
          · subst hnil
            exact ⟨ad, 0, by rw [hv]; simpa using e1⟩
          · exact ⟨_, cap, by rw [hv]; simpa using e1⟩
        refine slice_emp h ho hel hv hsz ?_ ?_ ?_
        · rcases optI_zero h hlo h1 with h5 | h5
          · exact .inl h5.1
          · exact .inr h5
        · rcases optI_zero h hu h2 with h5 | h5
          · exact .inl ⟨h5.1, by have := h5.2; omega⟩
          · exact .inr h5
        · rcases optI_zero h hm h3 with h5 | ⟨y, k, h5, h6⟩
          · simp at h5
          · exact .inr ⟨y, k, h5, by rintro rfl; simp at hhi, h6⟩
    · cases hl
  · rename_i he
    simp only [cond_none, Bool.and_eq_true, Bool.or_eq_true, Option.bind_eq_some_iff] at hl
    obtain ⟨⟨hok, hhi⟩, l, hlo, u, hu, mm, hm, hl⟩ := hl
    simp only [decide_eq_true_eq, Option.some.injEq] at hl
    obtain ⟨⟨⟨h1, h2⟩, h3⟩, rfl⟩ := hl
    obtain ⟨rfl, rfl⟩ := hg
    obtain ⟨el, hel, hsz⟩ := sliceOk_some hok
    have h4 := h.ev x
    rw [he] at h4
    obtain ⟨ad, hv⟩ := h4
    refine slice_emp h ho hel hv hsz ?_ ?_ ?_
    · rcases optI_zero h hlo h1 with h5 | h5
      · exact .inl h5.1
      · exact .inr h5
    · rcases optI_zero h hu h2 with h5 | h5
      · exact .inl ⟨h5.1, rfl⟩
      · exact .inr h5
    · rcases optI_zero h hm h3 with h5 | ⟨y, k, h5, h6⟩
      · exact .inl ⟨h5.1, rfl⟩
      · exact .inr ⟨y, k, h5, by rintro rfl; rw [h5] at hhi; simp at hhi, h6⟩
  · cases hl
/-- no new object -/
theorem done_emp (h : Good X mine w g lk E a) (hk : Kept [] w w') {v' : Value} (hv : ∃ ad, v' = .slice ad 0 0) (h1 : (execOp a.eval o).run X.P w = .ok (.value v') w') : Done X mine w g lk a n o (.c .emp) [] :=
  ⟨v', w', g.add n [], h1, Grows.add (L := []) hk rfl (fun i hi => by simp at hi) h.hr.dead h.live (fun p hp => by simp at hp) trivial (fun i x p hx => by simp at hx), hv⟩
theorem buildSliceOp_sound (h : Good X mine w g lk E a) {t : TypeId} {len : Nat} {parts : Array (Nat × Operand)} (ho : o.op = .buildSlice t len parts) {out : Out} (hl : opN X E lk n o = some out) {v : AV} {N : List AObj} (hg : out.gives v N) (hfree : ∀ i, i < N.length → lk (n + i) = none ∧ ¬ g.dead (n + i)) : Done X mine w g lk a n o v N := by
  simp only [opN, ho] at hl
  cases h0 : Nat.beq len 0 with
  | true =>
    obtain rfl : len = 0 := Nat.eq_of_beq_eq_true h0
    rw [h0, cond_true, cond_some] at hl
    simp only [Bool.and_eq_true, Array.isEmpty_iff] at hl
    obtain ⟨⟨hok, rfl⟩, rfl⟩ := hl
    obtain ⟨rfl, rfl⟩ := hg
    obtain ⟨el, hel, hsz⟩ := sliceOk_some hok
    obtain ⟨sz, hsz⟩ := Option.isSome_iff_exists.1 hsz
    refine done_emp h (hk := Kept.alloc [] w (.cells #[] el)) (v' := .slice (some ⟨w.heap.size, 0, none⟩) 0 0) ⟨_, rfl⟩ ?_
    simp [execOp, ho, Instr.buildSlice, run_underlying (elem_run hel), tsize_run hsz, Instr.fill, newRow]
    simp [Array.range]
  | false =>
    rw [h0] at hl
    simp only [cond_false, Option.bind_eq_some_iff, cond_none, Bool.and_eq_true, beq_iff_eq, Nat.beq_eq, Nat.ble_eq] at hl
    obtain ⟨el, hel, e, he, ⟨⟨⟨hs, hlen⟩, hbig⟩, hz⟩, hl⟩ := hl
    have h0 : len ≠ 0 := Nat.ne_of_beq_eq_false h0
    have hz1 : (zeroCells X.P el).isSome = true := by
      split at hz
      · simp [*]
      · cases hz
    have hz2 : ∀ z, zeroCells X.P el = some z → z.length = e.n := by
      intro z hz3
      rw [hz3] at hz
      simpa using hz
    have hf1 : (∃ y, N = [y]) → lk n = none ∧ ¬ g.dead n := by
      rintro ⟨y, rfl⟩
      exact hfree 0 (by simp)
    have main : ∀ hv, Done X mine w g lk a n o v N := fun hv => buildSlice_sound h (hf1 (by rcases hv with ⟨_, xs, _, _, rfl⟩ | ⟨cs, _, _, rfl⟩ <;> exact ⟨_, rfl⟩)) ho hel hs h0 hlen hbig hz1 hz2 hv
    refine main ?_
    cases hf : e.flat with
    | true =>
      rw [hf] at hl
      simp only [cond_true, Option.bind_eq_some_iff] at hl
      obtain ⟨xs, hx, hl⟩ := hl
      obtain rfl : _ = out := by simpa using hl
      obtain ⟨rfl, rfl⟩ := hg
      exact .inl ⟨rfl, xs, hx, rfl, rfl⟩
    | false =>
      rw [hf] at hl
      simp only [cond_false, Option.bind_eq_some_iff] at hl
      obtain ⟨cs, hx, hl⟩ := hl
      obtain rfl : _ = out := by simpa using hl
      obtain ⟨rfl, rfl⟩ := hg
      exact .inr ⟨cs, hx, rfl, rfl⟩
theorem appendN_sound (h : Good X mine w g lk E a) {t u el : TypeId} {x y : Operand} (ho : o.op = .call { callee := .builtin .append, args := #[x, y], argTypes := #[t, u] }) (ht : telem X.P t = some el) (hx : E.ev x = .c .emp) {out : Out}
    (hl : ((tyOf X.P 200 el).bind fun e => (X.P.info? el).bind fun i => cond (e.flat && (tsize X.P el == some e.n) && (match zeroCells X.P el with | some z => Nat.beq z.length e.n | none => false)) ((srcOf X.P lk e u (E.ev y)).bind fun ys =>
            some (Out.guard (leC ((ys.length : Int) * i.bytes) 140737488355328 && leC (ys.length : Int) 140737488355328) (.c (.ref n)) [.arr el e ys])) none) = some out) {v : AV} {N : List AObj} (hg : out.gives v N) (hfree : ∀ i, i < N.length → lk (n + i) = none ∧ ¬ g.dead (n + i)) : Done X mine w g lk a n o v N := by
  simp only [Option.bind_eq_some_iff, cond_none, Bool.and_eq_true, beq_iff_eq] at hl
  obtain ⟨e, he, i, hi, ⟨⟨hf, hs⟩, hz⟩, ys, hy, hl⟩ := hl
  obtain rfl : _ = out := by simpa using hl
  obtain ⟨hb, rfl, rfl⟩ := hg
  simp only [Bool.and_eq_true, decide_eq_true_eq] at hb
  obtain ⟨news, h1, h2⟩ := srcOf_src h hf hy
  split at hz
  · rename_i z hz3
    obtain ⟨i', zv, hi', hzi, hzr⟩ := zero_rel hz3 w (okB w g lk) g lk
    rw [hi] at hi'
    obtain rfl : i = i' := by simpa using hi'
    refine append_emp h (hfree 0 (by simp)) ho ht hx hi hzi ?_ hs h1 h2 hb.1 hb.2
    have := hzr.len
    have hz4 := Nat.eq_of_beq_eq_true hz
    rw [← hz4]
    simpa using this.symm
  · cases hz
theorem opN_sound (hT : TabOk X) (h : Good X mine w g lk E a) {out : Out} (hl : opN X E lk n o = some out) {v : AV} {N : List AObj} (hg : out.gives v N) (hfree : ∀ i, i < N.length → lk (n + i) = none ∧ ¬ g.dead (n + i)) : DoneW X mine w g lk a n o v N := by
  cases ho : o.op with
  | move x =>
    simp only [opN, ho, Option.some.injEq] at hl
    subst hl
    obtain ⟨rfl, rfl⟩ := hg
    exact (move_sound h (.inl ho)).toW
  | assign x =>
    simp only [opN, ho, Option.some.injEq] at hl
    subst hl
    obtain ⟨rfl, rfl⟩ := hg
    exact (move_sound h (.inr ho)).toW
  | pick c x y =>
    simp only [opN, ho] at hl
    split at hl
    · rename_i t he
      simp only [Option.some.injEq] at hl
      subst hl
      obtain ⟨rfl, rfl⟩ := hg
      exact (pick_sound h ho he).toW
    · cases hl
  | alloc t =>
    simp only [opN, ho] at hl
    cases hb : Nat.beq t X.bld with
    | true =>
      rw [hb, cond_true] at hl
      obtain rfl := Nat.eq_of_beq_eq_true hb
      obtain rfl : _ = out := by simpa using hl
      obtain ⟨rfl, rfl⟩ := hg
      exact (bld_sound hT.ctx h (hfree 0 (by simp)) ho).toW
    | false =>
      rw [hb, cond_false] at hl
      simp only [Option.bind_eq_some_iff, Option.some.injEq] at hl
      obtain ⟨cs, hz, rfl⟩ := hl
      obtain ⟨rfl, rfl⟩ := hg
      exact (alloc_sound h (hfree 0 (by simp)) ho hz).toW
  | box t x =>
    simp only [opN, ho, Option.bind_eq_some_iff, Option.some.injEq] at hl
    obtain ⟨cs, hz, rfl⟩ := hl
    obtain ⟨rfl, rfl⟩ := hg
    exact (box_sound h (hfree 0 (by simp)) ho hz).toW
  | build t parts =>
    simp only [opN, ho] at hl
    split at hl
    · rename_i fs ht
      simp only [cond_none, Option.bind_eq_some_iff, Option.some.injEq] at hl
      obtain ⟨hall, z, hz, cs, hc, rfl⟩ := hl
      obtain ⟨rfl, rfl⟩ := hg
      exact (build_sound h ho ht hall hz hc).toW
    · cases hl
  | buildSlice t len parts => exact (buildSliceOp_sound h ho hl hg hfree).toW
  | load t x =>
    simp only [opN, ho] at hl
    exact (load_sound h ho hl hg).toW
  | nilCheck x =>
    simp only [opN, ho] at hl
    split at hl
    · rename_i he
      obtain rfl : _ = out := by simpa using hl
      obtain ⟨rfl, rfl⟩ := hg
      exact (nilCheck_sound h ho he (.inl ⟨_, _, _, rfl⟩)).toW
    · rename_i he
      obtain rfl : _ = out := by simpa using hl
      obtain ⟨rfl, rfl⟩ := hg
      exact (nilCheck_sound h ho he (.inr (.inl ⟨_, _, rfl⟩))).toW
    · rename_i he
      obtain rfl : _ = out := by simpa using hl
      obtain ⟨rfl, rfl⟩ := hg
      exact (nilCheck_sound h ho he (.inr (.inr ⟨_, _, rfl⟩))).toW
    · cases hl
  | binOp op t x y ty =>
    simp only [opN, ho] at hl
    exact (binV_sound h ho hl hg).toW
  | unOp op t x =>
    simp only [opN, ho] at hl
    exact (unV_sound h ho hl hg).toW
  | convert src dst x =>
    simp only [opN, ho] at hl
    exact (conv_sound h ho hl hg).toW
  | makeFunc fn first caps =>
    cases fn with
    | func f =>
      simp only [opN, ho, cond_none, Option.bind_eq_some_iff, Option.some.injEq, Array.isEmpty_iff] at hl
      obtain ⟨rfl, cs, hc, rfl⟩ := hl
      obtain ⟨rfl, rfl⟩ := hg
      exact (makeFunc_sound h ho hc).toW
    | _ => simp [opN, ho] at hl
  | makeSlice t x y =>
    simp only [opN, ho] at hl
    split at hl
    · rename_i el kl l kc c ht hx hy
      simp only [cond_some, Option.bind_eq_some_iff, Bool.and_eq_true, beq_iff_eq, Nat.beq_eq] at hl
      obtain ⟨e, he, i, hi, z, hz, zc, hzc, ⟨d, r, H⟩, htk, ⟨hs, hlz⟩, rfl⟩ := hl
      obtain ⟨hb, rfl, rfl⟩ := hg
      simp only [Bool.and_eq_true, decide_eq_true_eq] at hb
      exact (make_sound h (hfree 0 (by simp)) ho ht hx hy hi hz hzc htk hs hlz hb.1.1.1 hb.1.1.2 hb.1.2 hb.2).toW
    · cases hl
  | slice t x lo hi mx => exact (slice_sound h ho hl hg).toW
  | fieldAddr s x f =>
    simp only [opN, ho] at hl
    split at hl
    · rename_i fd p i off hf hx
      simp only [cond_some] at hl
      obtain ⟨hp, rfl⟩ := hl
      obtain ⟨rfl, rfl⟩ := hg
      exact (fieldAddr_ptr h ho hf hp hx).toW
    · rename_i fd t y hf hx
      simp only [cond_none, Option.bind_eq_some_iff, Option.some.injEq] at hl
      obtain ⟨hp, u, hu, z, hz, rfl⟩ := hl
      obtain ⟨rfl, rfl⟩ := hg
      exact (fieldAddr_bptr h ho hf hp hx hz).toW
    · cases hl
  | field s x f =>
    simp only [opN, ho] at hl
    split at hl
    · rename_i fd cs hf hx
      split at hl
      · rename_i sz hsz
        simp only [cond_some, Bool.and_eq_true, Nat.ble_eq] at hl
        obtain ⟨⟨hle, h1⟩, rfl⟩ := hl
        obtain ⟨rfl, rfl⟩ := hg
        exact (field_sound h ho hf hsz hx hle h1).toW
      · cases hl
    · cases hl
  | indexAddr t x ix =>
    simp only [opN, ho] at hl
    split at hl
    · rename_i el e xs k i ht hx hi
      simp only [cond_some, beq_iff_eq] at hl
      obtain ⟨hs, rfl⟩ := hl
      obtain ⟨hb, rfl, rfl⟩ := hg
      simp only [Bool.and_eq_true, decide_eq_true_eq] at hb
      exact (index_bor h ho ht hx hi hs hb.1 hb.2).toW
    · rename_i el p k i ht hx hi
      split at hl
      · rename_i tid e xs hp
        simp only [cond_some, beq_iff_eq] at hl
        obtain ⟨hs, rfl⟩ := hl
        obtain ⟨hb, rfl, rfl⟩ := hg
        simp only [Bool.and_eq_true, decide_eq_true_eq] at hb
        exact (index_ref h ho ht hx hp hi hs hb.1 hb.2).toW
      · cases hl
    · cases hl
  | index t x ix =>
    simp only [opN, ho] at hl
    split at hl
    · rename_i s k i ht hx hi
      obtain rfl : _ = out := by simpa using hl
      obtain ⟨hb, rfl, rfl⟩ := hg
      simp only [Bool.and_eq_true, decide_eq_true_eq] at hb
      exact (index_str h ho ht hx hi hb.1 hb.2).toW
    · cases hl
  | extract x i =>
    simp only [opN, ho] at hl
    split at hl
    · rename_i l hx
      split at hl
      · rename_i p hp
        obtain rfl : _ = out := by simpa using hl
        obtain ⟨rfl, rfl⟩ := hg
        exact (extract_sound h ho hx hp).toW
      · cases hl
    · cases hl
  | call c =>
    obtain ⟨ca, ar, ty⟩ := c
    simp only [opN, ho] at hl
    split at hl
    · split at hl
      · rename_i x hx
        obtain rfl : ar = #[x] := Array.ext' hx
        split at hl
        · rename_i t ht
          simp only [cond_none, Option.bind_eq_some_iff, Option.some.injEq] at hl
          obtain ⟨hk, m, hm, rfl⟩ := hl
          obtain ⟨rfl, rfl⟩ := hg
          exact (len_sound h ho ht hk hm).toW
        · cases hl
      · cases hl
    · split at hl
      · rename_i x y hx
        obtain rfl : ar = #[x, y] := Array.ext' hx
        split at hl
        · rename_i k p k' q h1 h2
          obtain rfl : _ = out := by simpa using hl
          obtain ⟨rfl, rfl⟩ := hg
          exact (minmax_sound h ho h1 h2 (.inl ⟨rfl, rfl⟩)).toW
        · cases hl
      · cases hl
    · split at hl
      · rename_i x y hx
        obtain rfl : ar = #[x, y] := Array.ext' hx
        split at hl
        · rename_i k p k' q h1 h2
          obtain rfl : _ = out := by simpa using hl
          obtain ⟨rfl, rfl⟩ := hg
          exact (minmax_sound h ho h1 h2 (.inr ⟨rfl, rfl⟩)).toW
        · cases hl
      · cases hl
    · split at hl
      · rename_i x y t u hx hty
        obtain rfl : ar = #[x, y] := Array.ext' hx
        obtain rfl : ty = #[t, u] := Array.ext' hty
        split at hl
        · rename_i el hx ht
          exact (appendN_sound h ho ht hx hl hg hfree).toW
        · cases hl
      · cases hl
    · split at hl
      · rename_i f hx
        exact callV_sound hT h ho rfl hx hl hg hfree
      · cases hl
    · cases hl
  | _ => simp [opN, ho] at hl
end Go.Proofs.YtglbaihiibdemaaGreatDoor.Am
