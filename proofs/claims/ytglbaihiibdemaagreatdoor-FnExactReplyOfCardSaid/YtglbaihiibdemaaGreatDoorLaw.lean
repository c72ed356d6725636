/- What is proved here: the law's function answers true, whatever data it is handed. -/
import Derived.Test.YtglbaihiibdemaaGreatDoorBag
namespace Go.Proofs.YtglbaihiibdemaaGreatDoor.Fn
open Go Go.Proofs Go.Proofs.YtglbaihiibdemaaGreatDoor.Am
set_option autoImplicit false
set_option maxRecDepth 100000

/-! ### the number of rows -/
def sumT : List Item → Int
  | [] => 0
  | x :: r => x.2 + sumT r
theorem sumT_le : ∀ (l : List Item), (∀ x ∈ l, 1 ≤ x.2 ∧ x.2 ≤ 1000000) → 0 ≤ sumT l ∧ sumT l ≤ 1000000 * l.length
  | [], _ => by simp [sumT]
  | x :: r, h => by
    have h1 := h x (by simp)
    have h2 := sumT_le r fun y hy => h y (by simp [hy])
    simp only [sumT, List.length_cons]
    omega
def bagSize (b : List Item) : Int := if bagD b then min (sumT b) 1000000 else 0
theorem bag_facts {b : List Item} (h : bagD b = true) : b.length ≤ 300 ∧ ∀ x ∈ b, 1 ≤ x.2 ∧ x.2 ≤ 1000000 := by
  simp only [bagD, Bool.and_eq_true, decide_eq_true_eq, from_iff] at h
  refine ⟨h.1, fun x hx => ?_⟩
  obtain ⟨i, hi⟩ := List.getElem?_of_mem hx
  have hlt := (List.getElem?_eq_some_iff.1 hi).1
  have := h.2 i (by omega) (by omega)
  simp only [sp, itD, inI, Bool.and_eq_true, decide_eq_true_eq, List.getD, hi, Option.getD_some] at this
  exact this.1.2
theorem k_implBagSize_l (b : List Item) (hl : b.length ≤ 300) (hb : ∀ x ∈ b, 1 ≤ x.2 ∧ x.2 ≤ 1000000) : ∀ (m k : Nat) (s : Int), m + k = b.length → 0 ≤ s → s + sumT (b.drop k) ≤ 300000000 → L_impl_BagSize_5 s b (b.length : Int) k = some ((), min (s + sumT (b.drop k)) 1000000, ())
  | 0, k, s, hk, h0, h1 => by
    rw [l_impl_BagSize_5, cond_f (ltC_f (by omega)), eq_nil_drop (by omega)]
    simp only [sumT, Int.add_zero]
    refine congrArg (fun z : Int => some ((), z, ())) ?_
    split <;> omega
  | m + 1, k, s, hk, h0, h1 => by
    have hka : k < b.length := by omega
    have hx := hb _ (List.getElem_mem hka)
    have h2 := sumT_le (b.drop (k + 1)) fun x hx => hb x (List.mem_of_mem_drop hx)
    rw [dropc hka, sumT] at h1 ⊢
    rw [l_impl_BagSize_5, cond_t (ltC_t (by omega)), cond_t (in_t (by omega) (by omega)), Int.toNat_natCast, getD_item, getD_at hka, wrap64 (n := s + _) (by omega) (by omega), wrap64 (n := (k : Int) + 1) (by omega) (by omega), ← Int.add_assoc]
    exact k_implBagSize_l b hl hb m (k + 1) _ (by omega) (by omega) (by omega)
theorem k_implBagSize (b : List Item) (hl : RowsL b) : C_impl_BagSize () (b, ()) = some ((), bagSize b, ()) := by
  rw [e_impl_BagSize, k_implBagOk b hl, Option.bind_some]
  unfold bagSize
  cases h : bagD b with
  | false => rfl
  | true =>
    obtain ⟨h1, h2⟩ := bag_facts h
    have h3 := sumT_le b h2
    rw [cond_f (by rfl), if_pos rfl]
    have := k_implBagSize_l b h1 h2 b.length 0 0 rfl (by omega) (by rw [List.drop_zero]; omega)
    simpa using this
theorem k_specBagSize_l (b : List Item) (hl : b.length ≤ 300) (hb : ∀ x ∈ b, 1 ≤ x.2 ∧ x.2 ≤ 1000000) : ∀ (m k : Nat) (s : Int), m + k = b.length → 0 ≤ s → s ≤ 1000000 → L_spec_BagSize_5 s k b = some ((), min (s + sumT (b.drop k)) 1000000, ())
  | 0, k, s, hk, h0, h1 => by
    rw [l_spec_BagSize_5, cond_f (ltC_f (by omega)), eq_nil_drop (by omega)]
    simp only [sumT, Int.add_zero]
    refine congrArg (fun z : Int => some ((), z, ())) ?_
    omega
  | m + 1, k, s, hk, h0, h1 => by
    have hka : k < b.length := by omega
    have hx := hb _ (List.getElem_mem hka)
    have h2 := sumT_le (b.drop (k + 1)) fun x hx => hb x (List.mem_of_mem_drop hx)
    rw [dropc hka, sumT]
    rw [l_spec_BagSize_5, cond_t (ltC_t (by omega)), cond_t (in_t (by omega) (by omega)), Int.toNat_natCast, getD_item, getD_at hka, wrap64 (n := s + _) (by omega) (by omega), wrap64 (n := (k : Int) + 1) (by omega) (by omega)]
    by_cases h : 1000000 < s + b[k].2
    · rw [cond_t (ltC_t h), show ((k : Int) + 1) = ((k + 1 : Nat) : Int) from rfl, k_specBagSize_l b hl hb m (k + 1) 1000000 (by omega) (by omega) (by omega)]
      refine congrArg (fun z : Int => some ((), z, ())) ?_
      omega
    · rw [cond_f (ltC_f h), show ((k : Int) + 1) = ((k + 1 : Nat) : Int) from rfl, k_specBagSize_l b hl hb m (k + 1) _ (by omega) (by omega) (by omega)]
      refine congrArg (fun z : Int => some ((), z, ())) ?_
      omega
theorem k_specBagSize (b : List Item) (hl : RowsL b) : C_spec_BagSize () (b, ()) = some ((), bagSize b, ()) := by
  rw [e_spec_BagSize, k_specBagOk b hl, Option.bind_some]
  unfold bagSize
  cases h : bagD b with
  | false => rfl
  | true =>
    obtain ⟨h1, h2⟩ := bag_facts h
    rw [cond_f (by rfl), if_pos rfl]
    have := k_specBagSize_l b h1 h2 b.length 0 0 rfl (by omega) (by omega)
    simpa using this

/-! ### numerals -/
abbrev InR (n : Int) : Prop := -9223372036854775808 ≤ n ∧ n ≤ 9223372036854775807
theorem k_itoa {n : Int} (h : InR n) : C_strconv_Itoa () (n, ()) = some ((), Lib.itoa n, ()) := by
  show CItoa () (n, ()) = _
  simp only [CItoa]
  rw [cond_t (by simp; exact h)]
  rfl
theorem k_implDecimal {n : Int} (h : InR n) : C_impl_Decimal () (n, ()) = some ((), Lib.itoa n, ()) := by
  rw [e_impl_Decimal, k_itoa h, Option.bind_some]
/-- digits of a number that is not 0 -/
def digs (u : Nat) : List UInt8 := if u = 0 then [] else Lib.decDigits u
theorem digs_step {u : Nat} (h : u ≠ 0) : digs u = digs (u / 10) ++ [UInt8.ofNat (48 + u % 10)] := by
  unfold digs
  rw [if_neg h]
  by_cases h2 : u < 10
  · rw [if_pos (by omega), Lib.decDigits, dif_pos h2, List.nil_append, show u % 10 = u by omega]
  · rw [if_neg (by omega), Lib.decDigits, dif_neg h2]
theorem k_figure {d : Int} (h0 : 0 ≤ d) (h1 : d < 10) : C_spec_l01Figure () (d, ()) = some ((), 48 + d, ()) := by
  rw [e_spec_l01Figure, cond_t (ltC_t h1), wrap64 (by omega) (by omega)]
  congr 3
  show (if (false && decide ((48 + d) % (2 ^ 8 : Int) ≥ (2 ^ 7 : Int))) = true then (48 + d) % (2 ^ 8 : Int) - (2 ^ 8 : Int) else (48 + d) % (2 ^ 8 : Int)) = 48 + d
  simp only [Bool.false_and]
  simp
  omega
theorem tmod_abs (n : Int) : (if n.tmod 10 < 0 then 0 - n.tmod 10 else n.tmod 10) = ((n.natAbs % 10 : Nat) : Int) := by
  by_cases h : 0 ≤ n
  · rw [Int.tmod_eq_emod_of_nonneg h]
    split <;> omega
  · have e : n.tmod 10 = -((-n) % 10) := by
      have := Int.neg_tmod (-n) 10
      rw [Int.neg_neg] at this
      rw [this, Int.tmod_eq_emod_of_nonneg (by omega)]
    rw [e]
    split <;> omega
theorem tdiv_abs (n : Int) : (n.tdiv 10).natAbs = n.natAbs / 10 := by
  rw [Int.natAbs_tdiv]; rfl
theorem tdiv_in {n : Int} (h : InR n) : InR (n.tdiv 10) := by
  have := tdiv_abs n
  unfold InR at *
  omega
theorem k_specDecimal_l (below : Bool) : ∀ (m : Nat) (n : Int) (s : List UInt8), n.natAbs < 10 ^ m → s.length + m ≤ 1000 → InR n → L_spec_Decimal_5 n below s = some ((), (if below then [45] else []) ++ (digs n.natAbs ++ s), ())
  | 0, n, s, hn, hs, hr => by
    have h0 : n = 0 := by simp at hn; exact hn
    subst h0
    rw [l_spec_Decimal_5, cond_f (by rfl)]
    cases below with
    | true => rw [cond_t rfl, cond_t (leC_t (by simp; omega))]; rfl
    | false => rfl
  | m + 1, n, s, hn, hs, hr => by
    rw [l_spec_Decimal_5]
    by_cases h0 : n = 0
    · subst h0
      rw [cond_f (by rfl)]
      cases below with
      | true => rw [cond_t rfl, cond_t (leC_t (by simp; omega))]; rfl
      | false => rfl
    · rw [cond_t (by simp [h0])]
      have hd := tmod_abs n
      have hlt : n.natAbs % 10 < 10 := Nat.mod_lt _ (by omega)
      have hdiv : (n.tdiv 10).natAbs < 10 ^ m := by
        rw [tdiv_abs, Nat.div_lt_iff_lt_mul (by omega)]
        rw [Nat.pow_succ] at hn; exact hn
      have ih := k_specDecimal_l below m (n.tdiv 10) (UInt8.ofNat (48 + n.natAbs % 10) :: s) hdiv (by simp; omega) (tdiv_in hr)
      rw [tdiv_abs] at ih
      have hfin : (digs (n.natAbs / 10) ++ UInt8.ofNat (48 + n.natAbs % 10) :: s) = digs n.natAbs ++ s := by
        rw [digs_step (u := n.natAbs) (by omega)]; simp
      rw [hfin] at ih
      have hw : IntKind.i64.wrap (n.tdiv 10) = n.tdiv 10 := wrap64 (tdiv_in hr).1 (tdiv_in hr).2
      have hu : (48 + ((n.natAbs % 10 : Nat) : Int)).toNat = 48 + n.natAbs % 10 := by omega
      by_cases hneg : n.tmod 10 < 0
      · rw [if_pos hneg] at hd
        rw [cond_t (ltC_t hneg), wrap64 (n := 0 - n.tmod 10) (by omega) (by omega), hd, k_figure (by omega) (by omega), Option.bind_some, cond_t (leC_t (by simp; omega)), hw]
        simp only [List.map_cons, List.map_nil, hu, List.cons_append, List.nil_append]
        exact ih
      · rw [if_neg hneg] at hd
        rw [cond_f (ltC_f hneg), hd, k_figure (by omega) (by omega), Option.bind_some, cond_t (leC_t (by simp; omega)), hw]
        simp only [List.map_cons, List.map_nil, hu, List.cons_append, List.nil_append]
        exact ih
theorem k_specDecimal {n : Int} (h : InR n) : C_spec_Decimal () (n, ()) = some ((), Lib.itoa n, ()) := by
  rw [e_spec_Decimal]
  by_cases h0 : n = 0
  · subst h0
    rw [cond_t (by rfl)]
    congr 3
    rw [Lib.itoa, if_neg (by omega), Lib.decDigits, dif_pos (by decide)]
    rfl
  · rw [cond_f (by simp [h0])]
    have hb : n.natAbs < 10 ^ 19 := by unfold InR at h; omega
    refine (k_specDecimal_l _ 19 n [] hb (by simp) h).trans ?_
    refine congrArg (fun z : List UInt8 => some ((), z, ())) ?_
    rw [List.append_nil, ltC_eq]
    unfold digs
    rw [if_neg (show ¬ n.natAbs = 0 by omega), Lib.itoa]
    by_cases hn : n < 0
    · simp [hn]
    · simp only [hn, decide_false, if_false, Bool.false_eq_true, List.nil_append]
      congr 1
      omega
theorem decDigits_len : ∀ (m u : Nat), u < 10 ^ m → (Lib.decDigits u).length ≤ m + 1
  | 0, u, h => by
    rw [Lib.decDigits, dif_pos (by omega)]; simp
  | m + 1, u, h => by
    rw [Lib.decDigits]
    split
    · simp
    · have := decDigits_len m (u / 10) (by rw [Nat.div_lt_iff_lt_mul (by omega)]; rw [Nat.pow_succ] at h; exact h)
      simp; omega
theorem itoa_len {n : Int} (h : InR n) : (Lib.itoa n).length ≤ 21 := by
  unfold InR at h
  unfold Lib.itoa
  split
  · have := decDigits_len 19 n.natAbs (by omega)
    simp; omega
  · have := decDigits_len 19 n.toNat (by omega)
    omega

/-! ### a bag, shown -/
def num (n : Int) : List UInt8 := Lib.itoa (if 0 > n then 0 else n)
theorem inr_max {n : Int} (h : InR n) : InR (if 0 > n then 0 else n) := by unfold InR at *; split <;> omega
theorem num_len {n : Int} (h : InR n) : (num n).length ≤ 21 := itoa_len (inr_max h)
theorem k_l30Num {n : Int} (h : InR n) : C_spec_l30Num () (n, ()) = some ((), num n, ()) := by
  rw [e_spec_l30Num]
  unfold num
  by_cases hn : n < 0
  · rw [cond_t (ltC_t hn), if_pos (by omega)]
    congr 3
    rw [Lib.itoa, if_neg (by omega), Lib.decDigits, dif_pos (by decide)]
    rfl
  · rw [cond_f (ltC_f hn), k_specDecimal h, Option.bind_some, if_neg (by omega)]
def showRow : List Int → List UInt8
  | [] => []
  | v :: r => (num v ++ [32]) ++ showRow r
def showEnd (t : Int) : List UInt8 := [42] ++ num t ++ [10]
def showB : List Item → List UInt8
  | [] => []
  | x :: r => showRow x.1 ++ showEnd x.2 ++ showB r
abbrev InB (b : List Item) : Prop := ∀ x ∈ b, (∀ v ∈ x.1, InR v) ∧ InR x.2
def cnt (b : List Item) : Nat := b.length + (b.map fun x => x.1.length).sum
theorem showRow_len : ∀ (r : List Int), (∀ v ∈ r, InR v) → (showRow r).length ≤ 22 * r.length
  | [], _ => by simp [showRow]
  | v :: r, h => by
    have h1 := num_len (h v (by simp))
    have h2 := showRow_len r fun x hx => h x (by simp [hx])
    simp only [showRow, List.length_append, List.length_cons, List.length_nil]
    omega
theorem showB_len : ∀ (b : List Item), InB b → (showB b).length ≤ 30 * cnt b
  | [], _ => by simp [showB]
  | x :: r, h => by
    have h1 := showRow_len x.1 (h x (by simp)).1
    have h2 := num_len (h x (by simp)).2
    have h3 := showB_len r fun y hy => h y (by simp [hy])
    simp only [showB, showEnd, cnt, List.length_append, List.length_cons, List.length_nil, List.map_cons, List.sum_cons] at *
    omega
theorem k_specShowRow (b : List Item) (hl : RowsL b) (hb : InB b) (i : Nat) (hi : i < b.length) (fin : List UInt8 → Option (Unit × List UInt8 × Unit)) (B : Nat)
    (hfin : ∀ s : List UInt8, s.length + (showEnd b[i].2).length ≤ B → L_spec_ShowBag_3 (s ++ showEnd b[i].2) ((i : Int) + 1) b = fin s) (hB : B ≤ 9223372036854775807) :
    ∀ (m k : Nat) (s : List UInt8), m + k = b[i].1.length → s.length + (showRow (b[i].1.drop k)).length + (showEnd b[i].2).length ≤ B → L_spec_ShowBag_6 s i k b = fin (s ++ showRow (b[i].1.drop k))
  | 0, k, s, hk, hs => by
    have h1 := hl.1
    have hx := hb _ (List.getElem_mem hi)
    rw [eq_nil_drop (by omega)] at hs ⊢
    simp only [showRow, List.length_nil, showEnd, List.length_append, List.length_cons] at hs
    rw [l_spec_ShowBag_6, cond_t (in_t (by omega) (by omega)), Int.toNat_natCast, getD_item, getD_at hi, cond_f (ltC_f (by omega)), cond_t (leC_t (by simp; omega)), cond_t (in_t (by omega) (by omega)), k_l30Num hx.2, Option.bind_some,
      cond_t (leC_t (by simp; omega)), cond_t (leC_t (by simp; omega)), wrap64 (by omega) (by omega)]
    have := hfin s (by simp [showEnd]; omega)
    simp only [showRow, List.append_nil]
    rw [← this]
    simp [showEnd]
  | m + 1, k, s, hk, hs => by
    have h1 := hl.1
    have h2 := hl.2 _ (List.getElem_mem hi)
    have hx := hb _ (List.getElem_mem hi)
    have hka : k < b[i].1.length := by omega
    rw [dropc hka] at hs ⊢
    simp only [showRow, List.length_append, List.length_cons, List.length_nil] at hs
    rw [l_spec_ShowBag_6, cond_t (in_t (by omega) (by omega)), Int.toNat_natCast, getD_item, getD_at hi, cond_t (ltC_t (by omega)), cond_t (in_t (by omega) (by omega)), cond_t (in_t (by omega) (by omega)), Int.toNat_natCast, getD_at hka,
      k_l30Num (hx.1 _ (List.getElem_mem hka)), Option.bind_some, cond_t (leC_t (by simp; omega)), cond_t (leC_t (by simp; omega)), wrap64 (by omega) (by omega)]
    have := k_specShowRow b hl hb i hi fin B hfin hB m (k + 1) (s ++ num b[i].1[k] ++ [32]) (by omega) (by simp only [List.length_append, List.length_cons, List.length_nil]; omega)
    refine this.trans ?_
    simp [showRow]
theorem k_specShow_l (b : List Item) (hl : RowsL b) (hb : InB b) : ∀ (m i : Nat) (s : List UInt8), m + i = b.length → s.length + (showB (b.drop i)).length ≤ 9223372036854775807 → L_spec_ShowBag_3 s i b = some ((), s ++ showB (b.drop i), ())
  | 0, i, s, hi, hs => by
    rw [l_spec_ShowBag_3, cond_f (ltC_f (by omega)), eq_nil_drop (by omega)]
    simp [showB]
  | m + 1, i, s, hi, hs => by
    have hib : i < b.length := by omega
    rw [dropc hib] at hs ⊢
    simp only [showB, List.length_append] at hs
    rw [l_spec_ShowBag_3, cond_t (ltC_t (by omega))]
    have := k_specShowRow b hl hb i hib (fun t => some ((), t ++ showEnd b[i].2 ++ showB (b.drop (i + 1)), ())) (9223372036854775807 - (showB (b.drop (i + 1))).length) (fun t ht => k_specShow_l b hl hb m (i + 1) _ (by omega) (by simp only [List.length_append]; omega)) (by omega) b[i].1.length 0 s rfl (by rw [List.drop_zero]; omega)
    simp only [Int.natCast_zero, List.drop_zero] at this
    rw [this]
    simp [showB]
theorem k_specShow (b : List Item) (hl : RowsL b) (hb : InB b) (hs : (showB b).length ≤ 9223372036854775807) : C_spec_ShowBag () (b, ()) = some ((), showB b, ()) := by
  rw [e_spec_ShowBag]
  have := k_specShow_l b hl hb b.length 0 [] rfl (by simpa using hs)
  simpa using this
theorem k_implShowRow (b : List Item) (n : Int) (hb : InB b) (i : Nat) (hi : i < b.length) (hi2 : (i : Int) + 1 ≤ 9223372036854775807) (h2 : b[i].1.length ≤ 9223372036854775807) (fin : List UInt8 → Option (Unit × List UInt8 × Unit)) (B : Nat)
    (hfin : ∀ s : List UInt8, s.length + (showEnd b[i].2).length ≤ B → L_impl_ShowBag_3 b n ((i : Int) + 1) (s ++ showEnd b[i].2) = fin s) (hB : B ≤ 140737488355328) :
    ∀ (m k : Nat) (s : List UInt8), m + k = b[i].1.length → s.length + (showRow (b[i].1.drop k)).length + (showEnd b[i].2).length ≤ B → L_impl_ShowBag_6 b n i b[i].1 (b[i].1.length : Int) k s b[i].1 b[i].2 = fin (s ++ showRow (b[i].1.drop k))
  | 0, k, s, hk, hs => by
    have hx := hb _ (List.getElem_mem hi)
    have hn := num_len hx.2
    rw [eq_nil_drop (by omega)] at hs ⊢
    simp only [showRow, List.length_nil, showEnd, List.length_append, List.length_cons] at hs
    rw [l_impl_ShowBag_6, cond_f (ltC_f (by omega)), k_implDecimal (inr_max hx.2), Option.bind_some]
    have e : Lib.itoa (if 0 > b[i].2 then 0 else b[i].2) = num b[i].2 := rfl
    simp only [e]
    rw [cond_t (leC_t (by simp; omega)), cond_t (leC_t (by simp; omega)), cond_t (leN_t (by simp; omega)), wrap64 (by omega) (by omega)]
    have := hfin s (by simp [showEnd]; omega)
    simp only [showRow, List.append_nil]
    rw [← this]
    rfl
  | m + 1, k, s, hk, hs => by
    have hx := hb _ (List.getElem_mem hi)
    have hka : k < b[i].1.length := by omega
    have hv := hx.1 _ (List.getElem_mem hka)
    have hn := num_len hv
    rw [dropc hka] at hs ⊢
    simp only [showRow, List.length_append, List.length_cons, List.length_nil] at hs
    rw [l_impl_ShowBag_6, cond_t (ltC_t (by omega)), cond_t (in_t (by omega) (by omega)), Int.toNat_natCast]
    have e1 : List.getD b[i].1 k (Ty.dflt (Ty.int IntKind.i64)) = b[i].1[k] := getD_at hka _
    rw [e1, getD_at hka, k_implDecimal (inr_max hv), Option.bind_some]
    have e : Lib.itoa (if 0 > b[i].1[k] then 0 else b[i].1[k]) = num b[i].1[k] := rfl
    simp only [e]
    rw [cond_t (leC_t (by simp; omega)), cond_t (leN_t (by simp; omega)), wrap64 (by omega) (by omega)]
    have := k_implShowRow b n hb i hi hi2 h2 fin B hfin hB m (k + 1) (s ++ (num b[i].1[k] ++ [32])) (by omega) (by simp only [List.length_append, List.length_cons, List.length_nil]; omega)
    refine this.trans ?_
    simp [showRow]
theorem k_implShow_l (b : List Item) (hl : RowsL b) (hb : InB b) : ∀ (m i : Nat) (s : List UInt8), m + i = b.length → s.length + (showB (b.drop i)).length ≤ 140737488355328 → L_impl_ShowBag_3 b (b.length : Int) i s = some ((), s ++ showB (b.drop i), ())
  | 0, i, s, hi, hs => by
    rw [l_impl_ShowBag_3, cond_f (ltC_f (by omega)), eq_nil_drop (by omega)]
    simp [showB]
  | m + 1, i, s, hi, hs => by
    have h1 := hl.1
    have hib : i < b.length := by omega
    rw [dropc hib] at hs ⊢
    simp only [showB, List.length_append] at hs
    rw [l_impl_ShowBag_3, cond_t (ltC_t (by omega)), cond_t (in_t (by omega) (by omega)), Int.toNat_natCast, getD_item, getD_at hib]
    have := k_implShowRow b (b.length : Int) hb i hib (by omega) (hl.2 _ (List.getElem_mem hib)) (fun t => some ((), t ++ showEnd b[i].2 ++ showB (b.drop (i + 1)), ())) (140737488355328 - (showB (b.drop (i + 1))).length) (fun t ht => k_implShow_l b hl hb m (i + 1) _ (by omega) (by simp only [List.length_append]; omega)) (by omega) b[i].1.length 0 s rfl (by rw [List.drop_zero]; omega)
    simp only [Int.natCast_zero, List.drop_zero] at this
    rw [this]
    simp [showB]
theorem k_implShow (b : List Item) (hl : RowsL b) (hb : InB b) (hs : (showB b).length ≤ 140737488355328) : C_impl_ShowBag () (b, ()) = some ((), showB b, ()) := by
  rw [e_impl_ShowBag]
  have := k_implShow_l b hl hb b.length 0 [] rfl (by simpa using hs)
  simpa using this

/-! ### the replies -/
theorem size_in (b : List Item) : InR (bagSize b) := by
  unfold bagSize
  split
  · rename_i h
    obtain ⟨h1, h2⟩ := bag_facts h
    have := sumT_le b h2
    unfold InR
    omega
  · exact ⟨by omega, by omega⟩
def rowsText (b : List Item) : List UInt8 := [114, 111, 119, 115, 32] ++ Lib.itoa (bagSize b) ++ [10] ++ showB b
theorem k_rowsText (b : List Item) (hl : RowsL b) (hb : InB b) (hs : (showB b).length ≤ 140737488355000) : C_impl_rowsText () (b, ()) = some ((), rowsText b, ()) := by
  have h1 := itoa_len (size_in b)
  rw [e_impl_rowsText, k_implBagSize b hl, Option.bind_some]
  simp only
  rw [k_implDecimal (size_in b), Option.bind_some, cond_t (leC_t (by simp; omega)), cond_t (leC_t (by simp; omega)), k_implShow b hl hb (by omega), Option.bind_some, cond_t (leC_t (by simp; omega))]
  rfl
abbrev Bags (rs : List (List Item)) : Prop := rs.length ≤ 1048576 ∧ ∀ b ∈ rs, RowsL b ∧ InB b ∧ (showB b).length ≤ 140737488355000
def replyOf (rs : List (List Item)) : List UInt8 := if rs.length = 0 then [111, 112, 101, 110, 10] else rowsText (rs.getD (rs.length - 1) [])
theorem k_implReplyOf (c : T_impl_Cluster.den) (h : Bags c.2.2.2.2) : C_impl_ReplyOf () (c, ()) = some ((), replyOf c.2.2.2.2, ()) := by
  rw [e_impl_ReplyOf]
  unfold replyOf
  obtain ⟨h1, h2⟩ := h
  generalize c.2.2.2.2 = rs at *
  by_cases h0 : rs.length = 0
  · rw [cond_t (by simp [h0]), if_pos h0]
  · have e : IntKind.i64.wrap ((rs.length : Int) - 1) = ((rs.length - 1 : Nat) : Int) := by rw [wrap64 (by omega) (by omega)]; omega
    rw [cond_f (by simp; intro h; exact h0 (by rw [h]; rfl)), if_neg h0, e, cond_t (in_t (by omega) (by omega)), Int.toNat_natCast]
    obtain ⟨g1, g2, g3⟩ := h2 (rs.getD (rs.length - 1) []) (by rw [getD_at (by omega)]; exact List.getElem_mem _)
    rw [k_rowsText _ g1 g2 g3]
    first | rfl | done
theorem k_specReplyOf (c : T_impl_Cluster.den) (h : Bags c.2.2.2.2) : C_spec_ReplyOf () (c, ()) = some ((), replyOf c.2.2.2.2, ()) := by
  rw [e_spec_ReplyOf]
  unfold replyOf
  obtain ⟨h1, h2⟩ := h
  generalize c.2.2.2.2 = rs at *
  by_cases h0 : rs.length = 0
  · rw [cond_t (by simp [h0]), if_pos h0]
  · have e : IntKind.i64.wrap ((rs.length : Int) - 1) = ((rs.length - 1 : Nat) : Int) := by rw [wrap64 (by omega) (by omega)]; omega
    rw [cond_f (by simp; intro h; exact h0 (by rw [h]; rfl)), if_neg h0, e, cond_t (in_t (by omega) (by omega)), Int.toNat_natCast]
    obtain ⟨g1, g2, g3⟩ := h2 (rs.getD (rs.length - 1) []) (by rw [getD_at (by omega)]; exact List.getElem_mem _)
    generalize rs.getD (rs.length - 1) [] = b at *
    have h5 := itoa_len (size_in b)
    rw [k_specBagSize b g1, Option.bind_some]
    simp only
    rw [k_specDecimal (size_in b), Option.bind_some, cond_t (leC_t (by simp; omega)), cond_t (leC_t (by simp; omega)), k_specShow b g1 g2 (by omega), Option.bind_some, cond_t (leC_t (by simp; omega))]
    rfl

/-! ### the law -/
theorem bags_of {rs : List (List Item)} (hf : Fits (.sl 0 (.sl 0 (.pair (.sl 0 (.int .i64)) (.int .i64)))) rs) (hs : size (.sl 0 (.sl 0 (.pair (.sl 0 (.int .i64)) (.int .i64)))) rs ≤ NB) : Bags rs := by
  refine ⟨sizl hs, fun b hb => ?_⟩
  have h1 := hf.2 b hb
  have h2 := size_el hs b hb
  have hin : InB b := fun x hx => ⟨fun v hv => (h1.2 x hx).1.2 v hv, (h1.2 x hx).2⟩
  refine ⟨⟨h1.1, fun x hx => (h1.2 x hx).1.1⟩, hin, ?_⟩
  have h3 := showB_len b hin
  have h4 : cnt b = size (.sl 0 (.pair (.sl 0 (.int .i64)) (.int .i64))) b := by
    simp only [cnt, size]
    congr 3
    funext x
    rw [sum_zero fun _ => rfl]
    simp
  rw [h4] at h3
  simp only [NB] at h2
  omega
theorem law_true (x : T_laws_Cluster.den) (h : Fits T_laws_Cluster x) : C_laws_FnExactReplyOf () (x, ()) = some ((), true, ()) := by
  rw [e_laws_FnExactReplyOf, k_laws_szCluster x 1048576 h.lens (by omega) (by omega), Option.bind_some]
  by_cases hs : size T_laws_Cluster x ≤ NB
  · have e : szv (size T_laws_Cluster x) 1048576 = 1048576 - (size T_laws_Cluster x : Nat) := by
      unfold szv
      simp only [NB] at hs
      rw [if_pos (by omega)]
    simp only [NB] at hs
    rw [e, cond_f (ltC_f (by simp only; omega)), k_laws_toCluster x hs, Option.bind_some]
    have hb : Bags x.2.2.2.2 := bags_of (fit2 (fit2 (fit2 (fit2 h)))) (siz2 (siz2 (siz2 (siz2 hs))))
    have e1 := k_specReplyOf x hb
    have e2 := k_implReplyOf x hb
    have e3 := k_laws_eqCluster x h.lens
    simp only [Option.bind_some, e1, e2, e3]
    simp
  · have e : szv (size T_laws_Cluster x) 1048576 = -1 := by
      unfold szv
      simp only [NB] at hs
      rw [if_neg (by omega)]
    rw [e, cond_t (ltC_t (by decide))]
end Go.Proofs.YtglbaihiibdemaaGreatDoor.Fn
