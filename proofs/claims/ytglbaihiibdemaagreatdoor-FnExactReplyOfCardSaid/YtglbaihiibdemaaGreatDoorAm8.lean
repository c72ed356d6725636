/- What is proved here: as in the texts before: lengths, slices, new slices, literals; and all of them together. -/
import Derived.Test.YtglbaihiibdemaaGreatDoorAm7
namespace Go.Proofs.YtglbaihiibdemaaGreatDoor.Am
open Go
set_option autoImplicit false
variable {X : Ctx} {mine : Nat → Prop} {w w' : World} {g g' : Gh} {lk lk' : Nat → Option AObj} {E : Env} {a : Act} {n : Nat} {o : Oper}

theorem lenV_val (h : Good X mine w g lk E a) {x : Operand} {m : Int} (hx : lenV lk (E.ev x) = some m) : (∃ s : List UInt8, E.ev x = .c (.str s) ∧ a.eval x = .string ⟨⟨s⟩⟩ ∧ m = s.length) ∨ ((∀ s, E.ev x ≠ .c (.str s)) ∧ ∃ ad k c, a.eval x = .slice ad k c ∧ m = k) := by
  have h1 := h.ev x
  unfold lenV at hx
  split at hx
  · rename_i s he
    rw [he] at h1
    obtain rfl : _ = m := by simpa using hx
    exact .inl ⟨s, he, h1, rfl⟩
  · rename_i he
    rw [he] at h1
    obtain ⟨ad, h1⟩ := h1
    obtain rfl : _ = m := by simpa using hx
    exact .inr ⟨by simp [he], ad, 0, 0, h1, rfl⟩
  · rename_i e xs he
    rw [he] at h1
    obtain ⟨ad, cap, hv, _⟩ := h1
    obtain rfl : _ = m := by simpa using hx
    exact .inr ⟨by simp [he], ad, _, cap, by simpa using hv, rfl⟩
  · rename_i p k he
    rw [he] at h1
    obtain ⟨⟨ad, hv⟩, _⟩ := h1
    obtain rfl : _ = m := by simpa using hx
    exact .inr ⟨by simp [he], _, _, _, hv, rfl⟩
  · rename_i p he
    rw [he] at h1
    obtain ⟨_, h1⟩ := h1
    split at hx
    · rename_i t e xs hp
      obtain rfl : _ = m := by simpa using hx
      rcases h1 with h1 | ⟨t', e', xs', h2, hv⟩
      · rw [h.hr.dead _ h1] at hp; cases hp
      · have hown := h.hr.obj _ _ hp
        rcases hown with ⟨ad, e1, hnil, _⟩ | ⟨gb, cap, cur, css, S', e1, _⟩
        · subst hnil
          exact .inr ⟨by simp [he], ad, 0, 0, by rw [hv]; simpa using e1, rfl⟩
        · exact .inr ⟨by simp [he], _, _, cap, by rw [hv]; simpa using e1, rfl⟩
    · cases hx
  · cases hx
theorem len_sound (h : Good X mine w g lk E a) {x : Operand} {ts : Array TypeId} {t : TypeId} (ho : o.op = .call { callee := .builtin .len, args := #[x], argTypes := ts }) (ht : ts[0]? = some t) (hk : lenOk X.P t (E.ev x) = true)
    {m : Int} (hx : lenV lk (E.ev x) = some m) : Done X mine w g lk a n o (.c (.int .i64 m)) [] := by
  refine done_quiet h (v' := .int .i64 m) ?_ rfl
  rcases lenV_val h hx with ⟨s, he, hv, rfl⟩ | ⟨he, ad, k, c, hv, rfl⟩
  · rw [he] at hk
    have hst : X.P.underlying t = some .string := by
      unfold lenOk at hk
      split at hk <;> simp_all
    simp [execOp, ho, resolve, invoke, builtin, Builtin.len_, ht, hv, run_underlying hst, goInt, str_size]
  · obtain ⟨e, hsl⟩ : ∃ e, X.P.underlying t = some (.slice e) := by
      unfold lenOk at hk
      split at hk <;> simp_all
    simp [execOp, ho, resolve, invoke, builtin, Builtin.len_, ht, hv, run_underlying hsl, goInt]
theorem minmax_sound (h : Good X mine w g lk E a) {x y : Operand} {ts : Array TypeId} {b : Builtin} (ho : o.op = .call { callee := .builtin b, args := #[x, y], argTypes := ts }) {k k' : IntKind} {p q : Int} (hx : E.ev x = .c (.int k p)) (hy : E.ev y = .c (.int k' q))
    {v : AV} (hv : (b = .min ∧ v = .c (.int k (if q < p then q else p))) ∨ (b = .max ∧ v = .c (.int k (if q > p then q else p)))) : Done X mine w g lk a n o v [] := by
  have e1 : a.eval x = .int k p := by have := h.ev x; rw [hx] at this; exact this
  have e2 : a.eval y = .int k' q := by have := h.ev y; rw [hy] at this; exact this
  rcases hv with ⟨rfl, rfl⟩ | ⟨rfl, rfl⟩
  · exact done_quiet h (v' := .int k (if q < p then q else p)) (by simp [execOp, ho, resolve, invoke, builtin, e1, e2, run_min_int2]) rfl
  · exact done_quiet h (v' := .int k (if q > p then q else p)) (by simp [execOp, ho, resolve, invoke, builtin, e1, e2, run_max_int2]) rfl
theorem mapM_rel (h : Good X mine w g lk E a) : ∀ {l : List Operand} {cs : List CV}, (l.mapM fun x => match E.ev x with | .c v => some v | _ => none) = some cs → All2 (CVRel w (okB w g lk) g lk) cs (l.map a.eval)
  | [], cs, hm => by
    obtain rfl : [] = cs := by simpa using hm
    trivial
  | x :: l, cs, hm => by
    simp only [List.mapM_cons, Option.bind_eq_bind, Option.bind_eq_some_iff] at hm
    obtain ⟨c, hc, ds, hd, he⟩ := hm
    obtain rfl : c :: ds = cs := by simpa using he
    have h1 := h.ev x
    split at hc
    · rename_i v hx
      rw [hx] at h1
      obtain rfl : v = c := by simpa using hc
      exact ⟨h1, mapM_rel h hd⟩
    · cases hc
theorem makeFunc_sound (h : Good X mine w g lk E a) {f : FuncId} {caps : Array Operand} (ho : o.op = .makeFunc (.func f) #[] caps) {cs : List CV} (hc : (caps.toList.mapM fun x => match E.ev x with | .c v => some v | _ => none) = some cs) : Done X mine w g lk a n o (.fn f cs) [] := by
  refine done_quiet h (v' := .func (.func f) #[] (caps.map a.eval)) (by simp [execOp, ho, Instr.makeFunc]) ⟨_, rfl, ?_⟩
  have := mapM_rel h hc
  simpa using this

/-! ### make -/
theorem own_flatten {w : World} {e : Ty} {x : e.den} {c : List Value} (hc : Own w e x c []) : ∀ m, Rows (Own w e) (List.replicate m x) (List.replicate m c).flatten []
  | 0 => ⟨rfl, rfl⟩
  | m + 1 => ⟨c, _, [], [], by simp [List.replicate_succ], rfl, hc, own_flatten hc m⟩
theorem getElem_flatten_replicate {α : Type} [Inhabited α] (c : List α) (hc : c ≠ []) : ∀ (m i : Nat), i < m * c.length → (List.replicate m c).flatten[i]? = some (c[i % c.length]!)
  | 0, i, h => by simp at h
  | m + 1, i, h => by
    have hpos : 0 < c.length := List.length_pos_iff.2 hc
    rw [List.replicate_succ, List.flatten_cons]
    by_cases hi : i < c.length
    · rw [List.getElem?_append_left hi, Nat.mod_eq_of_lt hi, List.getElem?_eq_getElem hi, getElem!_pos c i hi]
    · rw [List.getElem?_append_right (by omega), getElem_flatten_replicate c hc m (i - c.length) (by rw [Nat.succ_mul] at h; omega)]
      congr 2
      exact (Nat.mod_eq_sub_mod (by omega)).symm
theorem madeCells_eq (z : Array Value) (m : Nat) (hz : 0 < z.size) : (madeCells z (m * z.size)).toList = (List.replicate m z.toList).flatten := by
  have hne : z.toList ≠ [] := by intro e; have := congrArg List.length e; simp at this; rw [this] at hz; simp at hz
  apply List.ext_getElem?
  intro i
  by_cases hi : i < m * z.size
  · rw [getElem_flatten_replicate z.toList hne m i (by simpa using hi)]
    simp [madeCells, hi, getElem!_def]
  · rw [List.getElem?_eq_none (by simp [madeCells]; omega), List.getElem?_eq_none (by simp; omega)]
/-- data without slices owns no block -/
theorem own_of_rep_flat {ok : Nat → Prop} : ∀ {t : Ty} {x : t.den} {c : List Value}, t.flat = true → Rep w ok t x c → Own w t x c []
  | .int _, _, _, _, h => ⟨h, rfl⟩
  | .bool, _, _, _, h => ⟨h, rfl⟩
  | .str, _, _, _, h => ⟨h, rfl⟩
  | .sl _ _, _, _, hf, _ => by simp [Ty.flat] at hf
  | .pair _ _, _, _, hf, h => by
    simp only [Ty.flat, Bool.and_eq_true] at hf
    obtain ⟨c, d, rfl, h1, h2⟩ := h
    exact ⟨c, d, [], [], rfl, rfl, by simp, own_of_rep_flat hf.1 h1, own_of_rep_flat hf.2 h2⟩
theorem take1_nil {w : World} {ok : Nat → Prop} {g : Gh} {lk : Nat → Option AObj} {t : Ty} {c : CV} {x : t.den} {H : Heap} {v : Value} (h : take1 [] t c = some (x, H)) (hc : CVRel w ok g lk c v) : Own w t x [v] [] ∧ H = [] := by
  unfold take1 at h
  split at h
  · rename_i k k' m
    rw [cond_some] at h
    obtain ⟨hk, h⟩ := h
    simp only [Prod.mk.injEq] at h
    obtain ⟨rfl, rfl⟩ := h
    simp only [CVRel] at hc
    subst hc
    rw [IntKind.same_eq hk]
    exact ⟨⟨rfl, rfl⟩, rfl⟩
  · simp only [Option.some.injEq, Prod.mk.injEq] at h; obtain ⟨rfl, rfl⟩ := h; simp only [CVRel] at hc; subst hc; exact ⟨⟨rfl, rfl⟩, rfl⟩
  · simp only [Option.some.injEq, Prod.mk.injEq] at h; obtain ⟨rfl, rfl⟩ := h; simp only [CVRel] at hc; subst hc; exact ⟨⟨rfl, rfl⟩, rfl⟩
  · simp only [Option.some.injEq, Prod.mk.injEq] at h; obtain ⟨rfl, rfl⟩ := h; obtain ⟨a, rfl⟩ := hc; exact ⟨.inl ⟨a, rfl, rfl, rfl⟩, rfl⟩
  · simp [look] at h
  · cases h
theorem takeN_nil {w : World} {ok : Nat → Prop} {g : Gh} {lk : Nat → Option AObj} : ∀ {t : Ty} {cs r : List CV} {x : t.den} {H : Heap} {vs : List Value}, takeN t [] cs = some (x, r, H) → All2 (CVRel w ok g lk) cs vs → ∃ v1 v2, vs = v1 ++ v2 ∧ Own w t x v1 [] ∧ All2 (CVRel w ok g lk) r v2 ∧ H = []
  | .pair p q, cs, r, x, H, vs, h, hc => by
    simp only [takeN, Option.bind_eq_some_iff] at h
    obtain ⟨⟨x1, r1, H1⟩, h1, ⟨x2, r2, H2⟩, h2, h3⟩ := h
    simp only [Option.some.injEq, Prod.mk.injEq] at h3
    obtain ⟨rfl, rfl, rfl⟩ := h3
    obtain ⟨v1, v2, rfl, h4, h5, rfl⟩ := takeN_nil h1 hc
    obtain ⟨v3, v4, rfl, h6, h7, rfl⟩ := takeN_nil h2 h5
    exact ⟨v1 ++ v3, v4, by simp, ⟨v1, v3, [], [], rfl, rfl, by simp, h4, h6⟩, h7, rfl⟩
  | .int k, c :: cs, r, x, H, v :: vs, h, hc => by
    simp only [takeN, Option.map_eq_some_iff, Prod.mk.injEq] at h
    obtain ⟨⟨y, H'⟩, h1, rfl, rfl, rfl⟩ := h
    obtain ⟨h2, rfl⟩ := take1_nil h1 hc.1
    exact ⟨[v], vs, rfl, h2, hc.2, rfl⟩
  | .bool, c :: cs, r, x, H, v :: vs, h, hc => by
    simp only [takeN, Option.map_eq_some_iff, Prod.mk.injEq] at h
    obtain ⟨⟨y, H'⟩, h1, rfl, rfl, rfl⟩ := h
    obtain ⟨h2, rfl⟩ := take1_nil h1 hc.1
    exact ⟨[v], vs, rfl, h2, hc.2, rfl⟩
  | .str, c :: cs, r, x, H, v :: vs, h, hc => by
    simp only [takeN, Option.map_eq_some_iff, Prod.mk.injEq] at h
    obtain ⟨⟨y, H'⟩, h1, rfl, rfl, rfl⟩ := h
    obtain ⟨h2, rfl⟩ := take1_nil h1 hc.1
    exact ⟨[v], vs, rfl, h2, hc.2, rfl⟩
  | .sl t e, c :: cs, r, x, H, v :: vs, h, hc => by
    simp only [takeN, Option.map_eq_some_iff, Prod.mk.injEq] at h
    obtain ⟨⟨y, H'⟩, h1, rfl, rfl, rfl⟩ := h
    obtain ⟨h2, rfl⟩ := take1_nil h1 hc.1
    exact ⟨[v], vs, rfl, h2, hc.2, rfl⟩
  | .int _, [], _, _, _, _, h, _ => by simp [takeN] at h
  | .bool, [], _, _, _, _, h, _ => by simp [takeN] at h
  | .str, [], _, _, _, _, h, _ => by simp [takeN] at h
  | .sl _ _, [], _, _, _, _, h, _ => by simp [takeN] at h
  | .int _, _ :: _, _, _, _, [], _, hc => hc.elim
  | .bool, _ :: _, _, _, _, [], _, hc => hc.elim
  | .str, _ :: _, _, _, _, [], _, hc => hc.elim
  | .sl _ _, _ :: _, _, _, _, [], _, hc => hc.elim
theorem Own.still {w w' : World} {t : Ty} {x : t.den} {c : List Value} (h : Own w t x c []) : Own w' t x c [] := h.move (by simp)
theorem make_sound (h : Good X mine w g lk E a) (hfree : lk n = none ∧ ¬ g.dead n) {t el : TypeId} {x y : Operand} (ho : o.op = .makeSlice t x y) (ht : telem X.P t = some el) {kl kc : IntKind} {l c : Int} (hx : E.ev x = .c (.int kl l)) (hy : E.ev y = .c (.int kc c))
    {i : TypeInfo} (hi : X.P.info? el = some i) {z : Value} (hz : i.zero = some z) {zc : List CV} (hzc : (ofVal z).cells? = some zc) {e : Ty} {d : e.den} {r : List CV} {H : Heap} (htk : takeN e [] zc = some (d, r, H)) (hs : tsize X.P el = some e.n) (hlz : zc.length = e.n)
    (h0 : 0 ≤ l) (h1 : l ≤ c) (h2 : c * (i.bytes : Int) ≤ 140737488355328) (h3 : c ≤ 140737488355328) : Done X mine w g lk a n o (.c (.ref n)) [.arr el e (List.replicate l.toNat d)] := by
  have e1 : a.eval x = .int kl l := by have := h.ev x; rw [hx] at this; exact this
  have e2 : a.eval y = .int kc c := by have := h.ev y; rw [hy] at this; exact this
  have hzr : All2 (CVRel w (okB w g lk) g lk) zc z.cells.toList := cells_rel (ofVal_rel z) hzc
  obtain ⟨v1, v2, hv, hown, h5, rfl⟩ := takeN_nil htk hzr
  have hlen : z.cells.size = e.n := by have := hzr.len; rw [hlz] at this; simpa using this.symm
  have hv2 : v2 = [] := by
    have := congrArg List.length hv
    rw [List.length_append, hown.len] at this
    have h6 : z.cells.toList.length = e.n := by simpa using hlen
    exact List.eq_nil_of_length_eq_zero (by omega)
  subst hv2
  rw [List.append_nil] at hv
  subst hv
  have hisz : i.size = e.n := by
    unfold tsize at hs
    split at hs
    · simpa [hi] using hs
    · cases hs
  have hpos := e.n_pos
  have hrun := run_make (P := X.P) w t el i z (elem_run ht) hi hz kl kc l c h0 h1 (by rw [Int.mul_comm]; omega) (by omega)
  rw [hisz] at hrun
  refine done_arr h hfree (Kept.alloc _ w (.cells (madeCells z.cells (c.toNat * e.n)) el)) (v' := .slice (some ⟨w.heap.size, 0, none⟩) l.toNat c.toNat) (S := [w.heap.size]) (.inr ⟨w.heap.size, c.toNat, _, _, [], by simp, heap_alloc_new _ _, by simp; omega, by simp [maxLen]; omega, size_madeCells _ _, rfl, ?_, rfl, by simp⟩) (by simp) (by simp [execOp, ho, e1, e2, hrun])
  have e3 := madeCells_eq z.cells c.toNat (by omega)
  rw [← hlen, e3, List.length_replicate]
  have e4 : (List.replicate c.toNat z.cells.toList).flatten.take (l.toNat * z.cells.size) = (List.replicate l.toNat z.cells.toList).flatten := by
    have : c.toNat = l.toNat + (c.toNat - l.toNat) := by omega
    rw [this, ← List.replicate_append_replicate, List.flatten_append, List.take_left' (by simp)]
  rw [e4]
  exact own_flatten hown.still l.toNat

/-! ### slices of slices -/
theorem str_extract (s : List UInt8) (l h : Nat) : (ByteArray.mk (Array.mk s)).extract l h = ByteArray.mk (Array.mk ((s.take h).drop l)) := by
  apply ByteArray.ext
  rw [ByteArray.data_extract]
  apply Array.ext'
  simp [List.extract_eq_take_drop, List.drop_take]
theorem optI_val {E : Env} (h : Good X mine w g lk E a) {d : Int} {x : Option Operand} {r : Int} (hx : optI d E x = some r) : (x = none ∧ r = d) ∨ ∃ y k, x = some y ∧ a.eval y = .int k r := by
  cases x with
  | none => exact .inl ⟨rfl, by simpa [optI] using hx.symm⟩
  | some y =>
    have h1 := h.ev y
    simp only [optI] at hx
    split at hx
    · rename_i k m he
      rw [he] at h1
      obtain rfl : m = r := by simpa using hx
      exact .inr ⟨y, k, rfl, h1⟩
    · cases hx
theorem bounds_run {P : Program} {isSlice : Bool} {len cap : Nat} {lo hi : Option Operand} {l h : Int} (hl : (lo = none ∧ l = 0) ∨ ∃ y k, lo = some y ∧ a.eval y = .int k l) (hh : (hi = none ∧ h = len) ∨ ∃ y k, hi = some y ∧ a.eval y = .int k h)
    (h0 : 0 ≤ l) (h1 : l ≤ h) (h2 : h ≤ len) (hc : len ≤ cap) : (Instr.sliceBounds isSlice len cap (lo.map a.eval) (hi.map a.eval) none).run P w = .ok (l.toNat, h.toNat, cap) w := by
  have hh0 : 0 ≤ h := by omega
  have hhc : h ≤ (cap : Int) := by omega
  rcases hl with ⟨rfl, rfl⟩ | ⟨y, k, rfl, hy⟩ <;> rcases hh with ⟨rfl, rfl⟩ | ⟨z, k2, rfl, hz⟩
  · simp [Instr.sliceBounds]
  · simp [Instr.sliceBounds, hz, Instr.sliceBound, asIntOf, hh0, hhc]
  · simp [Instr.sliceBounds, hy, Instr.sliceBound, asIntOf, h0, h1]
  · have hle : l ≤ (h.toNat : Int) := by omega
    simp [Instr.sliceBounds, hy, hz, Instr.sliceBound, asIntOf, h0, hh0, hhc, -Int.ofNat_toNat, hle]
theorem slice_str (h : Good X mine w g lk E a) {t : TypeId} {x : Operand} {lo hi : Option Operand} (ho : o.op = .slice t x lo hi none) (ht : X.P.underlying t = some .string) {s : List UInt8} (hx : E.ev x = .c (.str s)) {l u : Int} (hl : optI 0 E lo = some l) (hu : optI s.length E hi = some u)
    (h0 : 0 ≤ l) (h1 : l ≤ u) (h2 : u ≤ s.length) : Done X mine w g lk a n o (.c (.str ((s.take u.toNat).drop l.toNat))) [] := by
  have e1 : a.eval x = .string ⟨⟨s⟩⟩ := by have := h.ev x; rw [hx] at this; exact this
  refine done_quiet h (v' := .string ⟨⟨(s.take u.toNat).drop l.toNat⟩⟩) ?_ rfl
  have hb := bounds_run (P := X.P) (w := w) (isSlice := false) (len := (ByteArray.mk (Array.mk s)).size) (cap := (ByteArray.mk (Array.mk s)).size) (optI_val h hl) (optI_val h hu) h0 h1 h2 (Nat.le_refl _)
  simp [execOp, ho, e1, Instr.sliceAt, Instr.slice, run_underlying ht, hb, str_extract]
theorem slice_bor (h : Good X mine w g lk E a) {t el : TypeId} {x : Operand} {lo hi : Option Operand} (ho : o.op = .slice t x lo hi none) (ht : telem X.P t = some el) {e : Ty} {xs : List e.den} (hx : E.ev x = .c (.bor e xs)) (hs : tsize X.P el = some e.n) {l u : Int} (hl : optI 0 E lo = some l) (hu : optI xs.length E hi = some u)
    (h0 : 0 ≤ l) (h1 : l ≤ u) (h2 : u ≤ xs.length) : Done X mine w g lk a n o (.c (.bor e ((xs.take u.toNat).drop l.toNat))) [] := by
  have e1 := h.ev x
  rw [hx] at e1
  obtain ⟨ad, cap, hv, hcap, hr⟩ := e1
  have hv : a.eval x = .slice ad xs.length cap := by simpa using hv
  have hb := bounds_run (P := X.P) (w := w) (isSlice := true) (len := xs.length) (cap := cap) (optI_val h hl) (optI_val h hu) h0 h1 h2 hcap
  have hlen : ((xs.take u.toNat).drop l.toNat).length = u.toNat - l.toNat := by simp; omega
  refine done_quiet h (v' := .slice (if cap = l.toNat then ad else ad.map (·.add (l.toNat * e.n))) (u.toNat - l.toNat) (cap - l.toNat)) ?_ ⟨_, cap - l.toNat, by rw [hlen], by rw [hlen]; omega, fun i y hy => ?_⟩
  · simp [execOp, ho, hv, Instr.sliceAt, Instr.slice, run_underlying (elem_run ht), hb, tsize_run hs]
  · have hlt := (List.getElem?_eq_some_iff.1 hy).1
    rw [hlen] at hlt
    have hne : ¬ cap = l.toNat := by omega
    have hget : xs[l.toNat + i]? = some y := by
      rw [List.getElem?_drop, List.getElem?_take] at hy
      split at hy
      · exact hy
      · cases hy
    obtain ⟨ad', c, rfl, hsp, hok, hrep, hc⟩ := hr _ _ hget
    have had : ad'.add (l.toNat * e.n) = ⟨ad'.block, ad'.off + l.toNat * e.n, none⟩ := by rw [addr_none hsp]; exact add_none _ _ _
    refine ⟨ad'.add (l.toNat * e.n), c, by rw [if_neg hne]; rfl, by rw [had], by rw [had]; exact hok, hrep, fun j v hj => ?_⟩
    rw [had]
    have := hc j v hj
    rw [show ad'.off + l.toNat * e.n + (i * e.n + j) = ad'.off + ((l.toNat + i) * e.n + j) from by rw [Nat.add_mul]; omega]
    exact this
theorem slice_emp (h : Good X mine w g lk E a) {t el : TypeId} {x : Operand} {lo hi mx : Option Operand} (ho : o.op = .slice t x lo hi mx) (ht : telem X.P t = some el) {ad : Option Addr} {k c : Nat} (hv : a.eval x = .slice ad k c) (hel : (tsize X.P el).isSome = true)
    (hl : (lo = none) ∨ ∃ y k, lo = some y ∧ a.eval y = .int k 0) (hu : (hi = none ∧ k = 0) ∨ ∃ y k, hi = some y ∧ a.eval y = .int k 0) (hm : (mx = none ∧ c = 0) ∨ ∃ y k, mx = some y ∧ hi ≠ none ∧ a.eval y = .int k 0) : Done X mine w g lk a n o (.c .emp) [] := by
  obtain ⟨sz, hsz⟩ := Option.isSome_iff_exists.1 hel
  refine done_quiet h (v' := .slice ad 0 0) ?_ ⟨ad, rfl⟩
  have hrun : (Instr.sliceBounds true k c (lo.map a.eval) (hi.map a.eval) (mx.map a.eval)).run X.P w = .ok (0, 0, 0) w := by
    rcases hl with rfl | ⟨y, k1, rfl, hy⟩ <;> rcases hu with ⟨rfl, rfl⟩ | ⟨z, k2, rfl, hz⟩ <;> rcases hm with ⟨rfl, rfl⟩ | ⟨q, k3, rfl, hne, hq⟩ <;> first
      | exact absurd rfl hne
      | simp_all [Instr.sliceBounds, Instr.sliceBound, asIntOf]
  simp [execOp, ho, hv, Instr.sliceAt, Instr.slice, run_underlying (elem_run ht), hrun, tsize_run hsz]
end Go.Proofs.YtglbaihiibdemaaGreatDoor.Am
