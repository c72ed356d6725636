/- What is proved here: on bags the program's functions and the reference's compute the same. -/
import Derived.Test.YtglbaihiibdemaaGreatDoorFm
namespace Go.Proofs.YtglbaihiibdemaaGreatDoor.Fn
open Go Go.Proofs Go.Proofs.YtglbaihiibdemaaGreatDoor.Am
set_option autoImplicit false
set_option maxRecDepth 100000

abbrev Item := List Int × Int
theorem eq_nil_drop {α : Type} {a : List α} {k : Nat} (h : a.length ≤ k) : a.drop k = [] := List.drop_eq_nil_of_le h
theorem dropc {α : Type} {a : List α} {k : Nat} (h : k < a.length) : a.drop k = a[k] :: a.drop (k + 1) := List.drop_eq_getElem_cons h

/-! ### rows -/
theorem k_isNaN (x : Int) : C_cmp_isNaN_int () (x, ()) = some ((), false, ()) := by
  rw [e_cmp_isNaN_int]; simp
theorem k_cmp (x y : Int) : C_cmp_Compare_int () (x, y, ()) = some ((), (if x < y then -1 else if y < x then 1 else 0 : Int), ()) := by
  rw [e_cmp_Compare_int, k_isNaN, k_isNaN]
  simp only [Option.bind_some, cond_false]
  by_cases h : x < y
  · rw [cond_t (ltC_t h), if_pos h]
  · rw [cond_f (ltC_f h), if_neg h]
    by_cases h2 : y < x
    · rw [cond_t (ltC_t h2), if_pos h2]
    · rw [cond_f (ltC_f h2), if_neg h2]
def lexCmp : List Int → List Int → Int
  | [], [] => 0
  | [], _ :: _ => -1
  | _ :: _, [] => 1
  | x :: xs, y :: ys => if x < y then -1 else if y < x then 1 else lexCmp xs ys
def lexLt : List Int → List Int → Bool
  | [], [] => false
  | [], _ :: _ => true
  | _ :: _, [] => false
  | x :: xs, y :: ys => if x = y then lexLt xs ys else decide (x < y)
theorem lexCmp_lt : ∀ (a b : List Int), lexCmp a b < 0 ↔ lexLt a b = true
  | [], [] => by simp [lexCmp, lexLt]
  | [], _ :: _ => by simp [lexCmp, lexLt]
  | _ :: _, [] => by simp [lexCmp, lexLt]
  | x :: xs, y :: ys => by
    have ih := lexCmp_lt xs ys
    simp only [lexCmp, lexLt]
    by_cases h : x < y
    · have h3 : ¬ x = y := by omega
      simp [h, h3]
    · by_cases h2 : y < x
      · have h3 : ¬ x = y := by omega
        simp [h, h2, h3]
      · have h3 : x = y := by omega
        subst h3
        simpa using ih
theorem ltC_lex (a b : List Int) : ltC (lexCmp a b) 0 = lexLt a b := by
  rw [Bool.eq_iff_iff, ← lexCmp_lt]
  simp [ltC]
theorem k_slicesCompare_l (a b : List Int) (hl : a.length ≤ 9223372036854775807) : ∀ (m k : Nat), m + k = a.length → L_slices_Compare_int_int_2 a b a (a.length : Int) k = some ((), lexCmp (a.drop k) (b.drop k), ())
  | 0, k, hk => by
    rw [l_slices_Compare_int_int_2, cond_f (ltC_f (by omega)), eq_nil_drop (a := a) (by omega)]
    by_cases h : a.length < b.length
    · rw [cond_t (ltC_t (by omega)), dropc (a := b) (by omega)]; rfl
    · rw [cond_f (ltC_f (by omega)), eq_nil_drop (a := b) (by omega)]; rfl
  | m + 1, k, hk => by
    have hka : k < a.length := by omega
    rw [l_slices_Compare_int_int_2, cond_t (ltC_t (by omega)), cond_t (in_t (by omega) (by omega)), dropc hka]
    by_cases h : b.length ≤ k
    · rw [cond_t (leC_t (by omega)), eq_nil_drop h]; rfl
    · have hkb : k < b.length := by omega
      rw [cond_f (leC_f (by omega)), cond_t (in_t (by omega) (by omega)), Int.toNat_natCast, getD_at hka, getD_at hkb, k_cmp, Option.bind_some, dropc hkb]
      simp only [lexCmp]
      by_cases h1 : a[k] < b[k]
      · simp [h1]
      · by_cases h2 : b[k] < a[k]
        · simp [h1, h2]
        · simp only [if_neg h1, if_neg h2]
          rw [cond_f (by rfl), wrap64 (by omega) (by omega)]
          exact k_slicesCompare_l a b hl m (k + 1) (by omega)
theorem k_implRowLess (a b : List Int) (hl : a.length ≤ 9223372036854775807) : C_impl_RowLess () (a, b, ()) = some ((), lexLt a b, ()) := by
  rw [e_impl_RowLess, e_slices_Compare_int_int]
  have := k_slicesCompare_l a b hl a.length 0 rfl
  simp only [Int.natCast_zero, List.drop_zero] at this
  rw [this, Option.bind_some, ltC_lex]
theorem k_specRowLess_l (a b : List Int) (hl : a.length ≤ 9223372036854775807) : ∀ (m k : Nat), m + k = a.length → k ≤ b.length → L_spec_RowLess_2 a b k = some ((), lexLt (a.drop k) (b.drop k), ())
  | 0, k, hk, hb => by
    rw [l_spec_RowLess_2, cond_f (ltC_f (by omega)), eq_nil_drop (a := a) (by omega)]
    by_cases h : a.length < b.length
    · rw [ltC_t (by omega), dropc (a := b) (by omega)]; rfl
    · rw [ltC_f (by omega), eq_nil_drop (a := b) (by omega)]; rfl
  | m + 1, k, hk, hb => by
    have hka : k < a.length := by omega
    rw [l_spec_RowLess_2, cond_t (ltC_t (by omega)), dropc hka]
    by_cases h : b.length ≤ k
    · rw [cond_f (ltC_f (by omega)), ltC_f (by omega), eq_nil_drop h]; rfl
    · have hkb : k < b.length := by omega
      rw [cond_t (ltC_t (by omega)), cond_t (in_t (by omega) (by omega)), cond_t (in_t (by omega) (by omega)), Int.toNat_natCast, getD_at hka, getD_at hkb, dropc hkb]
      simp only [lexLt]
      by_cases h1 : a[k] = b[k]
      · rw [cond_f (by simp [h1]), if_pos h1, wrap64 (by omega) (by omega)]
        exact k_specRowLess_l a b hl m (k + 1) (by omega) (by omega)
      · rw [cond_t (by simp [h1]), if_neg h1, cond_t (in_t (by omega) (by omega)), cond_t (in_t (by omega) (by omega)), ltC_eq]
theorem k_specRowLess (a b : List Int) (hl : a.length ≤ 9223372036854775807) : C_spec_RowLess () (a, b, ()) = some ((), lexLt a b, ()) := by
  rw [e_spec_RowLess]
  exact k_specRowLess_l a b hl a.length 0 rfl (by omega)
def inI (x a b : Int) : Bool := decide (a ≤ x) && decide (x ≤ b)
theorem k_l01In (x a b : Int) : C_spec_l01In () (x, a, b, ()) = some ((), inI x a b, ()) := by
  rw [e_spec_l01In]
  unfold inI
  by_cases h : a ≤ x
  · rw [cond_t (leC_t h), leC_eq]; simp [h]
  · rw [cond_f (leC_f h)]; simp [h]
theorem k_timesOk (x : Int) : C_impl_timesOk () (x, ()) = some ((), inI x 1 1000000, ()) := by
  rw [e_impl_timesOk]
  unfold inI
  by_cases h : 1 ≤ x
  · rw [cond_t (leC_t h), leC_eq]; simp [h]
  · rw [cond_f (leC_f h)]; simp [h]
def rowD (r : List Int) : Bool := decide (r.length ≤ 4) && r.all fun v => inI v 0 99
theorem k_l03Row_l (r : List Int) (hl : r.length ≤ 9223372036854775807) : ∀ (m k : Nat), m + k = r.length → L_spec_l03Row_2 r k = some ((), (r.drop k).all (fun v => inI v 0 99) && decide (r.length ≤ 4), ())
  | 0, k, hk => by
    rw [l_spec_l03Row_2, cond_f (ltC_f (by omega)), eq_nil_drop (by omega), leC_eq]
    simp
    omega
  | m + 1, k, hk => by
    have hka : k < r.length := by omega
    rw [l_spec_l03Row_2, cond_t (ltC_t (by omega)), cond_t (in_t (by omega) (by omega)), Int.toNat_natCast, getD_at hka, k_l01In, Option.bind_some, dropc hka, List.all_cons]
    simp only
    cases h : inI r[k] 0 99 with
    | false => simp
    | true =>
      rw [cond_f (by rfl), wrap64 (by omega) (by omega)]
      simpa using k_l03Row_l r hl m (k + 1) (by omega)
theorem k_l03Row (r : List Int) (hl : r.length ≤ 9223372036854775807) : C_spec_l03Row () (r, ()) = some ((), rowD r, ()) := by
  have := k_l03Row_l r hl r.length 0 rfl
  rw [e_spec_l03Row]
  simp only [Int.natCast_zero, List.drop_zero] at this
  rw [this, rowD, Bool.and_comm]
theorem k_rowOk_l (r : List Int) (hl : r.length ≤ 9223372036854775807) : ∀ (m k : Nat), m + k = r.length → L_impl_rowOk_4 r (r.length : Int) k = some ((), (r.drop k).all (fun v => inI v 0 99), ())
  | 0, k, hk => by rw [l_impl_rowOk_4, cond_f (ltC_f (by omega)), eq_nil_drop (by omega)]; rfl
  | m + 1, k, hk => by
    have hka : k < r.length := by omega
    rw [l_impl_rowOk_4, cond_t (ltC_t (by omega)), cond_t (in_t (by omega) (by omega)), Int.toNat_natCast, getD_at hka, dropc hka, List.all_cons]
    by_cases h : r[k] < 0
    · rw [cond_t (ltC_t h)]; simp [inI]; omega
    · rw [cond_f (ltC_f h)]
      by_cases h2 : 99 < r[k]
      · rw [cond_t (ltC_t h2)]; simp [inI]; omega
      · rw [cond_f (ltC_f h2), wrap64 (by omega) (by omega)]
        have e : inI r[k] 0 99 = true := by simp [inI]; omega
        rw [e]
        simpa using k_rowOk_l r hl m (k + 1) (by omega)
theorem k_rowOk (r : List Int) (hl : r.length ≤ 9223372036854775807) : C_impl_rowOk () (r, ()) = some ((), rowD r, ()) := by
  rw [e_impl_rowOk]
  unfold rowD
  by_cases h : 4 < r.length
  · rw [cond_t (ltC_t (by omega))]
    have : decide (r.length ≤ 4) = false := by simp; omega
    rw [this]; rfl
  · rw [cond_f (ltC_f (by omega))]
    have e : decide (r.length ≤ 4) = true := by simp; omega
    have := k_rowOk_l r hl r.length 0 rfl
    simp only [Int.natCast_zero, List.drop_zero] at this
    rw [this, e]; rfl

/-! ### bags -/
def itD (x : Item) : Bool := rowD x.1 && inI x.2 1 1000000
/-- what the reference asks of place i -/
def sp (b : List Item) (i : Nat) : Bool := itD (b.getD i ([], 0)) && (decide (i = 0) || (lexLt (b.getD (i - 1) ([], 0)).1 (b.getD i ([], 0)).1 && decide ((b.getD (i - 1) ([], 0)).1.length = (b.getD i ([], 0)).1.length)))
/-- what the program asks of place i -/
def ip (b : List Item) (i : Nat) : Bool := itD (b.getD i ([], 0)) && decide ((b.getD i ([], 0)).1.length = (b.getD 0 ([], 0)).1.length) && (decide (i = 0) || lexLt (b.getD (i - 1) ([], 0)).1 (b.getD i ([], 0)).1)
def from_ (p : Nat → Bool) : Nat → Nat → Bool
  | 0, _ => true
  | m + 1, k => p k && from_ p m (k + 1)
theorem from_iff (p : Nat → Bool) : ∀ (m k : Nat), from_ p m k = true ↔ ∀ i, k ≤ i → i < k + m → p i = true
  | 0, k => by simp [from_]; omega
  | m + 1, k => by
    simp only [from_, Bool.and_eq_true, from_iff p m (k + 1)]
    constructor
    · rintro ⟨h1, h2⟩ i hi hi2
      by_cases h : i = k
      · subst h; exact h1
      · exact h2 i (by omega) (by omega)
    · intro h
      exact ⟨h k (by omega) (by omega), fun i hi hi2 => h i (by omega) (by omega)⟩
theorem sp_ip (b : List Item) (n : Nat) : from_ (sp b) n 0 = from_ (ip b) n 0 := by
  rw [Bool.eq_iff_iff, from_iff, from_iff]
  constructor
  · intro h
    have hlen : ∀ i, i < n → (b.getD i ([], 0)).1.length = (b.getD 0 ([], 0)).1.length := by
      intro i
      induction i with
      | zero => intro _; rfl
      | succ i ih =>
        intro hi
        have := h (i + 1) (by omega) (by omega)
        simp only [sp, Bool.and_eq_true, Bool.or_eq_true, decide_eq_true_eq] at this
        rcases this.2 with h0 | h0
        · omega
        · rw [← ih (by omega), ← h0.2]; rfl
    intro i h0 hi
    have h1 := h i h0 hi
    have h2 := hlen i (by omega)
    simp only [sp, Bool.and_eq_true, Bool.or_eq_true, decide_eq_true_eq] at h1
    simp only [ip, Bool.and_eq_true, Bool.or_eq_true, decide_eq_true_eq]
    exact ⟨⟨h1.1, h2⟩, h1.2.imp id fun h => h.1⟩
  · intro h i h0 hi
    have h1 := h i h0 hi
    have h2 := h (i - 1) (by omega) (by omega)
    simp only [ip, Bool.and_eq_true, Bool.or_eq_true, decide_eq_true_eq] at h1 h2
    simp only [sp, Bool.and_eq_true, Bool.or_eq_true, decide_eq_true_eq]
    exact ⟨h1.1.1, h1.2.imp id fun h => ⟨h, by rw [h2.1.2, h1.1.2]⟩⟩
def bagD (b : List Item) : Bool := decide (b.length ≤ 300) && from_ (sp b) b.length 0
theorem getD_item {b : List Item} {k : Nat} : b.getD k (Ty.dflt T_impl_Item) = b.getD k ([], 0) := rfl
abbrev RowsL (b : List Item) : Prop := b.length ≤ 9223372036854775807 ∧ ∀ x ∈ b, x.1.length ≤ 9223372036854775807
theorem RowsL.at {b : List Item} (h : RowsL b) (k : Nat) : (b.getD k ([], 0)).1.length ≤ 9223372036854775807 := by
  by_cases hk : k < b.length
  · rw [getD_at hk]; exact h.2 _ (List.getElem_mem hk)
  · rw [List.getD, List.getElem?_eq_none (by omega)]; simp
theorem lenne {a b : Nat} : ((a : Int) != (b : Int)) = !decide (a = b) := by
  by_cases h : a = b
  · simp [h]
  · have : ¬ (a : Int) = b := by omega
    simp [h, this]
theorem toNat_pred {k : Nat} (h : 0 < k) : ((k : Int) - 1).toNat = k - 1 := by omega
theorem k_specBagOk_l (b : List Item) (hl : RowsL b) : ∀ (m k : Nat), m + k = b.length → L_spec_BagOk_2 k b = some ((), from_ (sp b) m k && decide (b.length ≤ 300), ())
  | 0, k, hk => by
    rw [l_spec_BagOk_2, cond_f (ltC_f (by omega)), leC_eq]
    simp only [from_, Bool.true_and]
    congr 3
    rw [decide_eq_decide]; omega
  | m + 1, k, hk => by
    have h1 := hl.1
    rw [l_spec_BagOk_2, cond_t (ltC_t (by omega)), cond_t (in_t (by omega) (by omega)), Int.toNat_natCast, getD_item, k_l03Row _ (hl.at k), Option.bind_some]
    simp only [from_]
    rw [sp, itD]
    cases e1 : rowD (b.getD k ([], 0)).1 with
    | false => simp
    | true =>
      rw [cond_f (by rfl), k_l01In, Option.bind_some]
      cases e2 : inI (b.getD k ([], 0)).2 1 1000000 with
      | false => simp
      | true =>
        rw [cond_f (by rfl)]
        by_cases h0 : k = 0
        · subst h0
          rw [cond_f (ltC_f (by omega)), wrap64 (by omega) (by omega)]
          simpa using k_specBagOk_l b hl m 1 (by omega)
        · rw [cond_t (ltC_t (by omega)), wrap64 (n := (k : Int) - 1) (by omega) (by omega), cond_t (in_t (by omega) (by omega)), toNat_pred (by omega), getD_item, k_specRowLess _ _ (hl.at _), Option.bind_some]
          cases e3 : lexLt (b.getD (k - 1) ([], 0)).1 (b.getD k ([], 0)).1 with
          | false => simp [h0]
          | true =>
            rw [cond_f (by rfl), cond_t (in_t (by omega) (by omega)), lenne]
            cases e4 : decide ((b.getD (k - 1) ([], 0)).1.length = (b.getD k ([], 0)).1.length) with
            | true =>
              rw [cond_f (by rfl), wrap64 (by omega) (by omega)]
              have := k_specBagOk_l b hl m (k + 1) (by omega)
              simpa using this
            | false => simp [h0]
theorem k_specBagOk (b : List Item) (hl : RowsL b) : C_spec_BagOk () (b, ()) = some ((), bagD b, ()) := by
  rw [e_spec_BagOk]
  have := k_specBagOk_l b hl b.length 0 rfl
  simp only [Int.natCast_zero] at this
  rw [this, bagD, Bool.and_comm]
theorem k_implBagOk_l (b : List Item) (hl : RowsL b) : ∀ (m k : Nat), m + k = b.length → L_impl_BagOk_4 b (b.length : Int) k b = some ((), from_ (ip b) m k, ())
  | 0, k, hk => by rw [l_impl_BagOk_4, cond_f (ltC_f (by omega))]; rfl
  | m + 1, k, hk => by
    have h1 := hl.1
    rw [l_impl_BagOk_4, cond_t (ltC_t (by omega)), cond_t (in_t (by omega) (by omega)), Int.toNat_natCast, getD_item, k_rowOk _ (hl.at k), Option.bind_some]
    simp only [from_]
    rw [ip, itD]
    cases e1 : rowD (b.getD k ([], 0)).1 with
    | false => simp
    | true =>
      rw [cond_f (by rfl), k_timesOk, Option.bind_some]
      cases e2 : inI (b.getD k ([], 0)).2 1 1000000 with
      | false => simp
      | true =>
        rw [cond_f (by rfl), cond_t (in_t (i := 0) (by omega) (by omega)), show Int.toNat 0 = 0 from rfl, getD_item]
        rw [lenne]
        cases e4 : decide ((b.getD k ([], 0)).1.length = (b.getD 0 ([], 0)).1.length) with
        | true =>
          rw [cond_f (by rfl)]
          by_cases h0 : k = 0
          · subst h0
            rw [cond_f (ltC_f (by omega)), wrap64 (by omega) (by omega)]
            simpa using k_implBagOk_l b hl m 1 (by omega)
          · rw [cond_t (ltC_t (by omega)), wrap64 (n := (k : Int) - 1) (by omega) (by omega), cond_t (in_t (by omega) (by omega)), toNat_pred (by omega), getD_item, k_implRowLess _ _ (hl.at _), Option.bind_some]
            cases e3 : lexLt (b.getD (k - 1) ([], 0)).1 (b.getD k ([], 0)).1 with
            | false => simp [h0]
            | true =>
              rw [cond_f (by rfl), wrap64 (by omega) (by omega)]
              have := k_implBagOk_l b hl m (k + 1) (by omega)
              simpa using this
        | false => simp
theorem k_implBagOk (b : List Item) (hl : RowsL b) : C_impl_BagOk () (b, ()) = some ((), bagD b, ()) := by
  rw [e_impl_BagOk, bagD, sp_ip]
  by_cases h : 300 < b.length
  · rw [cond_t (ltC_t (by omega))]
    have : decide (b.length ≤ 300) = false := by simp; omega
    rw [this]; rfl
  · rw [cond_f (ltC_f (by omega))]
    have e : decide (b.length ≤ 300) = true := by simp; omega
    have := k_implBagOk_l b hl b.length 0 rfl
    simp only [Int.natCast_zero] at this
    rw [this, e]; rfl
end Go.Proofs.YtglbaihiibdemaaGreatDoor.Fn
