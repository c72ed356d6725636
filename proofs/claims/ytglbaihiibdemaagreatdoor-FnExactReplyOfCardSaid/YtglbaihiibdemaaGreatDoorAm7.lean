/- What is proved here: as in the text before: checks, arithmetic, conversions, places, lengths. -/
import Derived.Test.YtglbaihiibdemaaGreatDoorAm6
namespace Go.Proofs.YtglbaihiibdemaaGreatDoor.Am
open Go
set_option autoImplicit false
variable {X : Ctx} {mine : Nat → Prop} {w w' : World} {g g' : Gh} {lk lk' : Nat → Option AObj} {E : Env} {a : Act} {n : Nat} {o : Oper}

theorem nilCheck_sound (h : Good X mine w g lk E a) {x : Operand} (ho : o.op = .nilCheck x) {v : AV} (hx : E.ev x = v) (hv : (∃ p i off, v = .c (.ptr p i off)) ∨ (∃ t y, v = .c (.bptr t y)) ∨ (∃ f caps, v = .fn f caps)) : Done X mine w g lk a n o v [] := by
  have h1 := h.ev x
  rw [hx] at h1
  refine done_quiet h (v' := a.eval x) ?_ h1
  rcases hv with ⟨p, i, off, rfl⟩ | ⟨t, y, rfl⟩ | ⟨f, caps, rfl⟩
  · obtain ⟨⟨ad, hp⟩, _⟩ := h1
    simp [execOp, ho, hp]
  · obtain ⟨ad, c, h2, _⟩ := h1
    simp [execOp, ho, h2]
  · obtain ⟨vs, h2, _⟩ := h1
    simp [execOp, ho, h2]
theorem wrapK (k : IntKind) (n : Int) : k.wrap n = k.wrap n := rfl
theorem binI_sound (h : Good X mine w g lk E a) {op : BinOp} {t ty : TypeId} {x y : Operand} (ho : o.op = .binOp op t x y ty) {k : IntKind} {p q : Int} (hx : E.ev x = .c (.int k p)) (hy : E.ev y = .c (.int k q)) (hs : isShift op = false)
    {out : Out} (hb : binI op k p q = some out) {v : AV} {N : List AObj} (hg : out.gives v N) : Done X mine w g lk a n o v N := by
  have e1 : a.eval x = .int k p := by have := h.ev x; rw [hx] at this; exact this
  have e2 : a.eval y = .int k q := by have := h.ev y; rw [hy] at this; exact this
  have key : ∀ r, (binOp op t (.int k p) (.int k q)).run X.P w = .ok r w → (execOp a.eval o).run X.P w = .ok (.value r) w := by
    intro r hr
    have hg : (eqGuard op t x y (.int k p) (.int k q)).run X.P w = .ok () w := by unfold eqGuard; cases op <;> simp
    simp [execOp, ho, e1, e2, hg, hr]
  cases op <;> simp [isShift] at hs <;> simp only [binI, cmpInt, Option.map_some, Option.some.injEq] at hb <;> first
    | (subst hb; obtain ⟨rfl, rfl⟩ := hg; exact done_quiet h (key _ (by simp [binOp, Op.intArith, Op.intBits, Op.intCmp])) rfl)
    | (subst hb; obtain ⟨hc, rfl, rfl⟩ := hg; refine done_quiet h (key _ ?_) rfl; simp at hc; simp [binOp, Op.intDiv, hc])
theorem shiftI_sound (h : Good X mine w g lk E a) {op : BinOp} {t ty : TypeId} {x y : Operand} (ho : o.op = .binOp op t x y ty) {k k' : IntKind} {p q : Int} (hx : E.ev x = .c (.int k p)) (hy : E.ev y = .c (.int k' q))
    {out : Out} (hb : shiftI op k p q = some out) {v : AV} {N : List AObj} (hg : out.gives v N) : Done X mine w g lk a n o v N := by
  have e1 : a.eval x = .int k p := by have := h.ev x; rw [hx] at this; exact this
  have e2 : a.eval y = .int k' q := by have := h.ev y; rw [hy] at this; exact this
  have key : ∀ r, (binOp op t (.int k p) (.int k' q)).run X.P w = .ok r w → (execOp a.eval o).run X.P w = .ok (.value r) w := by
    intro r hr
    have hg : (eqGuard op t x y (.int k p) (.int k' q)).run X.P w = .ok () w := by unfold eqGuard; cases op <;> simp
    simp [execOp, ho, e1, e2, hg, hr]
  cases op <;> simp only [shiftI, Option.some.injEq] at hb <;> first
    | (subst hb; obtain ⟨hc, rfl, rfl⟩ := hg; refine done_quiet h (key _ ?_) rfl; simp only [decide_eq_true_eq] at hc; have hc' : ¬ q < 0 := by omega
       simp [binOp, Op.shift, hc'])
    | cases hb
theorem str_toList (s : List UInt8) : (ByteArray.mk (Array.mk s)).toList = s := ByteArray.toList_eq _
theorem str_append (a b : List UInt8) : (ByteArray.mk (Array.mk a)) ++ (ByteArray.mk (Array.mk b)) = ByteArray.mk (Array.mk (a ++ b)) := by
  apply ByteArray.ext; simp
theorem str_size (s : List UInt8) : (ByteArray.mk (Array.mk s)).size = s.length := rfl
theorem binS_sound (h : Good X mine w g lk E a) {op : BinOp} {t ty : TypeId} {x y : Operand} (ho : o.op = .binOp op t x y ty) {p q : List UInt8} (hx : E.ev x = .c (.str p)) (hy : E.ev y = .c (.str q))
    {out : Out} (hb : binS op p q = some out) {v : AV} {N : List AObj} (hg : out.gives v N) : Done X mine w g lk a n o v N := by
  have e1 : a.eval x = .string ⟨⟨p⟩⟩ := by have := h.ev x; rw [hx] at this; exact this
  have e2 : a.eval y = .string ⟨⟨q⟩⟩ := by have := h.ev y; rw [hy] at this; exact this
  have key : ∀ r, (Op.stringOp op ⟨⟨p⟩⟩ ⟨⟨q⟩⟩).run X.P w = .ok r w → op ≠ .shl → op ≠ .shr → (execOp a.eval o).run X.P w = .ok (.value r) w := by
    intro r hr h1 h2
    have hg : (eqGuard op t x y (.string ⟨⟨p⟩⟩) (.string ⟨⟨q⟩⟩)).run X.P w = .ok () w := by unfold eqGuard; cases op <;> simp
    have hb : binOp op t (.string ⟨⟨p⟩⟩) (.string ⟨⟨q⟩⟩) = Op.stringOp op ⟨⟨p⟩⟩ ⟨⟨q⟩⟩ := by cases op <;> simp [binOp] at h1 h2 ⊢
    simp [execOp, ho, e1, e2, hg, hb, hr]
  cases op <;> simp only [binS, Option.some.injEq] at hb <;> first
    | (subst hb; obtain ⟨rfl, rfl⟩ := hg; exact done_quiet h (key _ (by simp [Op.stringOp, str_toList]) (by simp) (by simp)) rfl)
    | (subst hb; obtain ⟨hc, rfl, rfl⟩ := hg; refine done_quiet h (key _ ?_ (by simp) (by simp)) rfl; simp only [decide_eq_true_eq] at hc; simp only [Op.stringOp, str_size, str_append]; rw [if_neg (by simp [IntKind.max, IntKind.bits, IntKind.signed]; omega)]; rfl)
    | cases hb
theorem binB_sound (h : Good X mine w g lk E a) {op : BinOp} {t ty : TypeId} {x y : Operand} (ho : o.op = .binOp op t x y ty) {p q : Bool} (hx : E.ev x = .c (.bool p)) (hy : E.ev y = .c (.bool q)) (ht : X.P.underlying t = some .bool)
    {v : AV} (hv : (op = .eql ∧ v = .c (.bool (p == q))) ∨ (op = .neq ∧ v = .c (.bool (!(p == q))))) : Done X mine w g lk a n o v [] := by
  have e1 : a.eval x = .bool p := by have := h.ev x; rw [hx] at this; exact this
  have e2 : a.eval y = .bool q := by have := h.ev y; rw [hy] at this; exact this
  rcases hv with ⟨rfl, rfl⟩ | ⟨rfl, rfl⟩
  · refine done_quiet h (v' := .bool (p == q)) ?_ rfl
    have hg : (eqGuard .eql t x y (.bool p) (.bool q)).run X.P w = .ok () w := by unfold eqGuard; simp
    simp [execOp, ho, e1, e2, hg, run_eql_bool _ _ _ _ ht]
  · refine done_quiet h (v' := .bool (!(p == q))) ?_ rfl
    have hg : (eqGuard .neq t x y (.bool p) (.bool q)).run X.P w = .ok () w := by unfold eqGuard; simp
    simp [execOp, ho, e1, e2, hg, run_neq_bool _ _ _ _ ht]
theorem binV_sound (h : Good X mine w g lk E a) {op : BinOp} {t ty : TypeId} {x y : Operand} (ho : o.op = .binOp op t x y ty) {out : Out} (hb : binV X.P op t (E.ev x) (E.ev y) = some out) {v : AV} {N : List AObj} (hg : out.gives v N) : Done X mine w g lk a n o v N := by
  unfold binV at hb
  split at hb
  · rename_i k p k' q hx hy
    cases hs : isShift op with
    | true => rw [hs] at hb; exact shiftI_sound h ho hx hy hb hg
    | false =>
      rw [hs] at hb
      simp only [cond_false, cond_none] at hb
      obtain ⟨hk, hb⟩ := hb
      rw [← IntKind.same_eq hk] at hy
      exact binI_sound h ho hx hy hs hb hg
  · rename_i p q hx hy
    exact binS_sound h ho hx hy hb hg
  · rename_i p q hx hy
    split at hb
    · rename_i ht
      simp only [Option.some.injEq] at hb; subst hb; obtain ⟨rfl, rfl⟩ := hg
      exact binB_sound h ho hx hy ht (.inl ⟨rfl, rfl⟩)
    · rename_i ht
      simp only [Option.some.injEq] at hb; subst hb; obtain ⟨rfl, rfl⟩ := hg
      exact binB_sound h ho hx hy ht (.inr ⟨rfl, rfl⟩)
    · cases hb
  · cases hb
theorem unV_sound (h : Good X mine w g lk E a) {op : UnOp} {t : TypeId} {x : Operand} (ho : o.op = .unOp op t x) {out : Out} (hb : unV op (E.ev x) = some out) {v : AV} {N : List AObj} (hg : out.gives v N) : Done X mine w g lk a n o v N := by
  have h1 := h.ev x
  unfold unV at hb
  split at hb
  · rename_i k p hx
    simp only [Option.some.injEq] at hb; subst hb; obtain ⟨rfl, rfl⟩ := hg
    rw [hx] at h1
    have h1 : a.eval x = .int k p := h1
    exact done_quiet h (v' := .int k (k.wrap (0 - p))) (by simp [execOp, ho, h1, Op.unary, Op.intArith]) rfl
  · rename_i p hx
    simp only [Option.some.injEq] at hb; subst hb; obtain ⟨rfl, rfl⟩ := hg
    rw [hx] at h1
    have h1 : a.eval x = .bool p := h1
    exact done_quiet h (v' := .bool (!p)) (by simp [execOp, ho, h1, Op.unary]) rfl
  · cases hb

/-! ### conversions -/
theorem bytes_read (h : Good X mine w g lk E a) {x : Operand} {xs : List Int} (hx : bytesOf lk (E.ev x) = some xs) : Rep w (fun b => b < w.heap.size) (.sl 0 (.int .u8)) xs [a.eval x] := by
  have h1 := h.ev x
  unfold bytesOf at hx
  split at hx
  · rename_i c he
    rw [he] at h1
    exact snap1_rep h.reads h.hr.dead hx h1
  · cases hx
theorem conv_sound (h : Good X mine w g lk E a) {src dst : TypeId} {x : Operand} (ho : o.op = .convert src dst x) {out : Out} (hb : convV X.P lk src dst (E.ev x) = some out) {v : AV} {N : List AObj} (hg : out.gives v N) : Done X mine w g lk a n o v N := by
  unfold convV at hb
  split at hb
  · rename_i k0 k k1 p hs hd hx
    have h1 := h.ev x
    rw [hx] at h1
    have h1 : a.eval x = .int k1 p := h1
    simp only [Option.some.injEq] at hb; subst hb; obtain ⟨rfl, rfl⟩ := hg
    exact done_quiet h (v' := .int k (k.wrap p)) (by simp [execOp, ho, h1, convert, run_underlying hs, run_underlying hd, Conv.intToInt]) rfl
  · rename_i s hs hd hx
    have h1 := h.ev x
    rw [hx] at h1
    have h1 : a.eval x = .string ⟨⟨s⟩⟩ := h1
    simp only [Option.some.injEq] at hb; subst hb; obtain ⟨rfl, rfl⟩ := hg
    exact done_quiet h (v' := .string ⟨⟨s⟩⟩) (by simp [execOp, ho, h1, convert, run_underlying hs, run_underlying hd]) rfl
  · rename_i e hs hd
    split at hb
    · rename_i he
      simp only [Option.map_eq_some_iff] at hb
      obtain ⟨xs, hxs, rfl⟩ := hb
      obtain ⟨rfl, rfl⟩ := hg
      obtain ⟨ad, cap, hv, hl, hr⟩ := bytes_read h hxs
      have hv : a.eval x = .slice ad xs.length cap := by simpa using hv
      refine done_quiet h (v' := .string (strOfNums xs)) ?_ rfl
      have key : (convert src dst (.slice ad xs.length cap)).run X.P w = .ok (.string (strOfNums xs)) w := by
        cases ad with
        | none =>
          have : xs = [] := by
            cases xs with
            | nil => rfl
            | cons y ys => obtain ⟨ad, c, ha, _⟩ := hr 0 y rfl; cases ha
          subst this
          rw [run_convert_bytes_nil w src e hs he _ _ dst hd]
          rfl
        | some ad =>
          cases xs with
          | nil =>
            rw [run_convert_bytes_string w src dst e _ _ cap hs he hd]
            simp [Conv.bytesToString, loadCells, loadCellsFrom, strOfNums]
            rfl
          | cons y ys =>
            obtain ⟨ad', c, ha, hsp, _⟩ := hr 0 y rfl
            obtain rfl : ad = ad' := by simpa using ha
            have had := addr_none hsp
            rw [had]
            refine run_convert_bytes_arg w src e hs he ad.block ad.off _ cap (y :: ys) rfl (fun i hi => ?_) dst hd
            obtain ⟨ad2, c2, ha2, _, _, hrep, hc2⟩ := hr i _ (getD_get (d := 0) hi)
            obtain rfl : ad = ad2 := by simpa using ha2
            have hrep : c2 = [.int .u8 ((y :: ys).getD i 0)] := hrep
            subst hrep
            have := hc2 0 _ rfl
            simpa [Ty.n] using this
      simp [execOp, ho, hv, key]
    · cases hb
  · cases hb

/-! ### places -/
theorem fieldPlace_run {P : Program} {t : TypeId} {n : Nat} (hn : tsize P t = some n) (h0 : n ≠ 0) {f : Field} (hf : f.type = t) (ad : Addr) : (fieldPlace ad f).run P w = .ok (ad.add f.offset) w := by
  simp [fieldPlace, Sem.run_bind, hf, tsize_run hn, h0]
theorem field_run {P : Program} {s : TypeId} {f : Nat} {fd : Field} (h : tfield P s f = some fd) : ∃ fs, P.underlying s = some (.struct fs) ∧ fs[f]? = some fd := by
  unfold tfield at h
  split at h
  · rename_i fs hs; exact ⟨fs, hs, h⟩
  · cases h
theorem tpos_size {P : Program} {t : TypeId} (h : tpos P t = true) : ∃ n, tsize P t = some n ∧ n ≠ 0 := by
  unfold tpos at h
  split at h
  · rename_i n hn; exact ⟨n + 1, hn, by omega⟩
  · cases h
theorem fieldAt_run {P : Program} {s : TypeId} {f : Nat} {fd : Field} (h : tfield P s f = some fd) (hn : tpos P fd.type = true) (ad : Addr) : (Instr.fieldAt s (.pointer (some ad)) f).run P w = .ok (.pointer (some (ad.add fd.offset))) w := by
  obtain ⟨fs, h1, h2⟩ := field_run h
  obtain ⟨n, h3, h4⟩ := tpos_size hn
  simp [Instr.fieldAt, run_underlying h1, h2, Instr.sureAddr, fieldPlace_run h3 h4 rfl]
theorem sub_rep {ok : Nat → Prop} : ∀ {t : Ty} {x : t.den} {off : Nat} {u : Ty} {z : u.den} {c : List Value}, sub t x off u = some z → Rep w ok t x c → ∃ c1 c2 c3, c = c1 ++ c2 ++ c3 ∧ c1.length = off ∧ Rep w ok u z c2
  | .pair p q, x, off, u, z, c, h, hr => by
    unfold sub at h
    cases hb : (Nat.beq off 0 && Ty.beq (.pair p q) u) with
    | true =>
      simp only [hb, cond_true] at h
      simp only [Bool.and_eq_true, Nat.beq_eq] at hb
      obtain ⟨rfl, hb⟩ := hb
      rw [dif_pos hb] at h
      have e := Ty.beq_eq hb
      subst e
      obtain rfl : x = z := by simpa using h
      exact ⟨[], c, [], by simp, rfl, hr⟩
    | false =>
      simp only [hb, cond_false] at h
      obtain ⟨c1, c2, rfl, h1, h2⟩ := hr
      cases hl : Nat.blt off p.n with
      | true =>
        simp only [hl, cond_true] at h
        obtain ⟨d1, d2, d3, rfl, h3, h4⟩ := sub_rep h h1
        exact ⟨d1, d2, d3 ++ c2, by simp, h3, h4⟩
      | false =>
        simp only [hl, cond_false] at h
        obtain ⟨d1, d2, d3, rfl, h3, h4⟩ := sub_rep h h2
        have hge : ¬ off < p.n := by
          intro hlt
          rw [show Nat.blt off p.n = true from by simpa [Nat.blt_eq] using hlt] at hl
          cases hl
        exact ⟨c1 ++ d1, d2, d3, by simp, by rw [List.length_append, h1.len, h3]; omega, h4⟩
  | .int k, x, off, u, z, c, h, hr => by
    unfold sub at h
    rw [cond_none, Nat.beq_eq] at h
    obtain ⟨rfl, h⟩ := h
    split at h
    · rename_i hb; have e := Ty.beq_eq hb; subst e; obtain rfl : x = z := by simpa using h
      exact ⟨[], c, [], by simp, rfl, hr⟩
    · cases h
  | .bool, x, off, u, z, c, h, hr => by
    unfold sub at h
    rw [cond_none, Nat.beq_eq] at h
    obtain ⟨rfl, h⟩ := h
    split at h
    · rename_i hb; have e := Ty.beq_eq hb; subst e; obtain rfl : x = z := by simpa using h
      exact ⟨[], c, [], by simp, rfl, hr⟩
    · cases h
  | .str, x, off, u, z, c, h, hr => by
    unfold sub at h
    rw [cond_none, Nat.beq_eq] at h
    obtain ⟨rfl, h⟩ := h
    split at h
    · rename_i hb; have e := Ty.beq_eq hb; subst e; obtain rfl : x = z := by simpa using h
      exact ⟨[], c, [], by simp, rfl, hr⟩
    · cases h
  | .sl t e, x, off, u, z, c, h, hr => by
    unfold sub at h
    rw [cond_none, Nat.beq_eq] at h
    obtain ⟨rfl, h⟩ := h
    split at h
    · rename_i hb; have e := Ty.beq_eq hb; subst e; obtain rfl : x = z := by simpa using h
      exact ⟨[], c, [], by simp, rfl, hr⟩
    · cases h
theorem fieldAddr_ptr (h : Good X mine w g lk E a) {s : TypeId} {x : Operand} {f : Nat} (ho : o.op = .fieldAddr s x f) {fd : Field} (hf : tfield X.P s f = some fd) (hn : tpos X.P fd.type = true) {p i off : Nat} (hx : E.ev x = .c (.ptr p i off)) :
    Done X mine w g lk a n o (.c (.ptr p i (off + fd.offset))) [] := by
  have h1 := h.ev x
  rw [hx] at h1
  obtain ⟨⟨ad, hv⟩, h2⟩ := h1
  refine done_quiet h (v' := .pointer (some (ad.add fd.offset))) (by simp [execOp, ho, hv, fieldAt_run hf hn]) ⟨⟨_, rfl⟩, ?_⟩
  rcases h2 with h2 | ⟨y, h2, h3⟩
  · exact .inl h2
  · refine .inr ⟨y, h2, ?_⟩
    rw [hv] at h3
    cases y with
    | box tid cs =>
      intro hi
      obtain ⟨b, h4, h5⟩ := h3 hi
      obtain rfl : ad = ⟨b, off, none⟩ := by simpa using h5
      exact ⟨b, h4, by rw [add_none]⟩
    | arr tid e xs =>
      obtain ⟨hi, b, nn, c, h4, h5⟩ := h3
      obtain rfl : ad = ⟨b, i * e.n + off, none⟩ := by simpa using h5
      exact ⟨hi, b, nn, c, h4, by rw [add_none, Nat.add_assoc]⟩
    | bld s =>
      intro hi h0
      have h4 : off = 0 := by omega
      have h5 : fd.offset = 0 := by omega
      rw [h5]
      have := h3 hi h4
      simpa [Addr.add] using this
    | gone => trivial
theorem fieldAddr_bptr (h : Good X mine w g lk E a) {s : TypeId} {x : Operand} {f : Nat} (ho : o.op = .fieldAddr s x f) {fd : Field} (hf : tfield X.P s f = some fd) (hn : tpos X.P fd.type = true) {t u : Ty} {y : t.den} {z : u.den} (hx : E.ev x = .c (.bptr t y)) (hz : sub t y fd.offset u = some z) :
    Done X mine w g lk a n o (.c (.bptr u z)) [] := by
  have h1 := h.ev x
  rw [hx] at h1
  obtain ⟨ad, c, hv, hs, hok, hr, hc⟩ := h1
  obtain ⟨c1, c2, c3, rfl, h2, h3⟩ := sub_rep hz hr
  have had : ad.add fd.offset = ⟨ad.block, ad.off + fd.offset, none⟩ := by rw [addr_none hs]; exact add_none _ _ _
  refine done_quiet h (v' := .pointer (some (ad.add fd.offset))) (by simp [execOp, ho, hv, fieldAt_run hf hn]) ⟨ad.add fd.offset, c2, rfl, by rw [had], by rw [had]; exact hok, h3, fun j v hj => ?_⟩
  rw [had]
  have := hc (fd.offset + j) v (by
    rw [List.append_assoc, List.getElem?_append_right (by omega), h2, Nat.add_sub_cancel_left, List.getElem?_append_left (List.getElem?_eq_some_iff.1 hj).1]
    exact hj)
  simpa [Nat.add_assoc] using this
theorem part_run {P : Program} {t : TypeId} {n : Nat} (hn : tsize P t = some n) {vs : Array Value} {off : Nat} (hle : off + n ≤ vs.size) (h1 : (tagg P t || Nat.beq n 1) = true) :
    ∃ v, (part t vs off).run P w = .ok v w ∧ (tagg P t = true → v = .agg ((vs.toList.drop off).take n).toArray) ∧ (tagg P t = false → (vs.toList.drop off).take n = [v]) := by
  cases hg : tagg P t with
  | true =>
    refine ⟨.agg (vs.extract off (off + n)), by simp [part, Sem.run_bind, tagg_run hn, hg, tsize_run hn], fun _ => ?_, fun h => by cases h⟩
    congr 1
    apply Array.ext'
    simp [List.extract_eq_take_drop]
  | false =>
    rw [hg] at h1
    have h2 : n = 1 := by simpa using h1
    subst h2
    obtain ⟨v, hv⟩ : ∃ v, vs[off]? = some v := ⟨vs[off]'(by omega), Array.getElem?_eq_getElem (by omega)⟩
    refine ⟨v, by simp [part, Sem.run_bind, tagg_run hn, hg, hv], fun h => (by cases h), fun _ => ?_⟩
    have hl : vs.toList[off]? = some v := by simpa using hv
    have : off < vs.toList.length := by simpa using (show off < vs.size by omega)
    rw [List.drop_eq_getElem_cons this]
    simp at hl ⊢
    rw [Array.getElem?_eq_getElem (by omega)] at hv
    simpa using hv
theorem field_sound (h : Good X mine w g lk E a) {s : TypeId} {x : Operand} {f : Nat} (ho : o.op = .field s x f) {fd : Field} (hf : tfield X.P s f = some fd) {sz : Nat} (hn : tsize X.P fd.type = some sz) {cs : List CV} (hx : E.ev x = .mix cs) (hle : fd.offset + sz ≤ cs.length)
    (h1 : (tagg X.P fd.type || Nat.beq sz 1) = true) : Done X mine w g lk a n o (mkAV (tagg X.P fd.type) ((cs.drop fd.offset).take sz)) [] := by
  have h0 := h.ev x
  rw [hx] at h0
  obtain ⟨vs, hv, hc⟩ := h0
  have hlen := hc.len
  obtain ⟨v, h2, h3, h4⟩ := part_run (w := w) hn (vs := vs) (off := fd.offset) (by rw [hlen] at hle; simpa using hle) h1
  obtain ⟨fs, h5, h6⟩ := field_run hf
  refine done_quiet h (v' := v) ?_ (mkAV_rel ((hc.drop fd.offset).take sz) h3 h4)
  simp [execOp, ho, hv, Instr.field, run_underlying h5, h6, asAgg, h2]
theorem elem_run {P : Program} {t e : TypeId} (h : telem P t = some e) : P.underlying t = some (.slice e) := by
  unfold telem at h
  split at h
  · rename_i e' he; obtain rfl : e' = e := by simpa using h
    exact he
  · cases h
theorem indexAt_run {P : Program} {t el : TypeId} (ht : telem P t = some el) {sz : Nat} (hs : tsize P el = some sz) {k : IntKind} {i : Int} {ad : Addr} {len cap : Nat} (h0 : 0 ≤ i) (h1 : i < len) :
    (Instr.indexAt t (.slice (some ad) len cap) (.int k i)).run P w = .ok (.pointer (some (ad.add (i.toNat * sz)))) w := by
  simp [Instr.indexAt, asIntOf, run_underlying (elem_run ht), h0, h1, tsize_run hs]
theorem index_bor (h : Good X mine w g lk E a) {t el : TypeId} {x ix : Operand} (ho : o.op = .indexAddr t x ix) (ht : telem X.P t = some el) {e : Ty} {xs : List e.den} (hx : E.ev x = .c (.bor e xs)) {k : IntKind} {i : Int} (hi : E.ev ix = .c (.int k i))
    (hs : tsize X.P el = some e.n) (h0 : 0 ≤ i) (h1 : i < xs.length) : Done X mine w g lk a n o (.c (.bptr e (xs.getD i.toNat e.dflt))) [] := by
  have h2 := h.ev x
  have h3 := h.ev ix
  rw [hx] at h2
  rw [hi] at h3
  have h3 : a.eval ix = .int k i := h3
  obtain ⟨ao, cap, hv, hl, hr⟩ := h2
  have hv : a.eval x = .slice ao xs.length cap := by simpa using hv
  obtain ⟨ad, c, rfl, hsp, hok, hrep, hc⟩ := hr i.toNat _ (getD_get (d := e.dflt) (by omega))
  have had : ad.add (i.toNat * e.n) = ⟨ad.block, ad.off + i.toNat * e.n, none⟩ := by rw [addr_none hsp]; exact add_none _ _ _
  refine done_quiet h (v' := .pointer (some (ad.add (i.toNat * e.n)))) (by simp [execOp, ho, hv, h3, indexAt_run ht hs h0 h1]) ⟨_, c, rfl, by rw [had], by rw [had]; exact hok, hrep, fun j u hj => ?_⟩
  rw [had]
  have := hc j u hj
  simpa [Nat.add_assoc] using this
theorem index_ref (h : Good X mine w g lk E a) {t el : TypeId} {x ix : Operand} (ho : o.op = .indexAddr t x ix) (ht : telem X.P t = some el) {p tid : Nat} {e : Ty} {xs : List e.den} (hx : E.ev x = .c (.ref p)) (hp : lk p = some (.arr tid e xs)) {k : IntKind} {i : Int} (hi : E.ev ix = .c (.int k i))
    (hs : tsize X.P el = some e.n) (h0 : 0 ≤ i) (h1 : i < xs.length) : Done X mine w g lk a n o (.c (.ptr p i.toNat 0)) [] := by
  have h2 := h.ev x
  have h3 := h.ev ix
  rw [hx] at h2
  rw [hi] at h3
  have h3 : a.eval ix = .int k i := h3
  obtain ⟨_, h2⟩ := h2
  rcases h2 with h2 | ⟨t', e', xs', h4, hv⟩
  · rw [h.hr.dead _ h2] at hp; cases hp
  · have hown := h.hr.obj _ _ hp
    rcases hown with ⟨_, _, hnil, _⟩ | ⟨gb, cap, cur, css, S', e1, _⟩
    · subst hnil; simp at h1; omega
    · have e1 : g.val p = .slice (some ⟨gb, 0, none⟩) xs.length cap := by simpa using e1
      rw [e1] at hv
      refine done_quiet h (v' := .pointer (some (Addr.add ⟨gb, 0, none⟩ (i.toNat * e.n)))) (by simp [execOp, ho, hv, h3, indexAt_run ht hs h0 h1]) ⟨⟨_, rfl⟩, .inr ⟨_, hp, by omega, gb, _, cap, e1, by rw [add_none]; simp⟩⟩
theorem index_str (h : Good X mine w g lk E a) {t : TypeId} {x ix : Operand} (ho : o.op = .index t x ix) (ht : X.P.underlying t = some .string) {s : List UInt8} (hx : E.ev x = .c (.str s)) {k : IntKind} {i : Int} (hi : E.ev ix = .c (.int k i)) (h0 : 0 ≤ i) (h1 : i < s.length) :
    Done X mine w g lk a n o (.c (.int .u8 (s.getD i.toNat 0).toNat)) [] := by
  have h2 := h.ev x
  have h3 := h.ev ix
  rw [hx] at h2
  rw [hi] at h3
  have h3 : a.eval ix = .int k i := h3
  have h2 : a.eval x = .string ⟨⟨s⟩⟩ := h2
  refine done_quiet h (v' := .int .u8 (s.getD i.toNat 0).toNat) ?_ rfl
  have hlt : i.toNat < (ByteArray.mk (Array.mk s)).size := by rw [str_size]; omega
  have hget : (ByteArray.mk (Array.mk s))[i.toNat]? = some (s.getD i.toNat 0) := by
    rw [ByteArray.getElem?_lt' _ _ hlt]
    have : i.toNat < s.length := hlt
    simp [List.getD, List.getElem?_eq_getElem this]
    rfl
  simp [execOp, ho, h2, h3, Instr.index, asIntOf, run_underlying ht, h0, hget]
theorem extract_sound (h : Good X mine w g lk E a) {x : Operand} {i : Nat} (ho : o.op = .extract x i) {l : List (Bool × List CV)} (hx : E.ev x = .tup l) {p : Bool × List CV} (hp : l[i]? = some p) : Done X mine w g lk a n o (mkAV p.1 p.2) [] := by
  have h2 := h.ev x
  rw [hx] at h2
  obtain ⟨vs, hv, hc⟩ := h2
  obtain ⟨v, h3, h4⟩ := hc.get i p hp
  have h3' : vs[i]? = some v := by simpa using h3
  refine done_quiet h (v' := v) (by simp [execOp, ho, hv, Instr.extract, h3']) ?_
  obtain ⟨b, cs⟩ := p
  cases b with
  | true => exact h4
  | false => obtain ⟨c, rfl, h4⟩ := h4; exact h4
end Go.Proofs.YtglbaihiibdemaaGreatDoor.Am
