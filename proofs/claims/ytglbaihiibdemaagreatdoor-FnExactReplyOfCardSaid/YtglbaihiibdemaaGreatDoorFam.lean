/- What is proved here: plain laws for copying, counting and comparing: how the loops of such functions end. -/
import Derived.Test.YtglbaihiibdemaaGreatDoorItoa
import Derived.Test.YtglbaihiibdemaaGreatDoorIn
namespace Go.Proofs.YtglbaihiibdemaaGreatDoor.Am
open Go
set_option autoImplicit false

/-! ### numbers -/
theorem wrap64 {n : Int} (h0 : -9223372036854775808 ≤ n) (h1 : n ≤ 9223372036854775807) : IntKind.i64.wrap n = n := by
  show (if (true && decide (n % (2 ^ 64 : Int) ≥ (2 ^ 63 : Int))) = true then n % (2 ^ 64 : Int) - (2 ^ 64 : Int) else n % (2 ^ 64 : Int)) = n
  simp only [Bool.true_and, decide_eq_true_eq]
  split <;> omega
theorem leC_t {a b : Int} (h : a ≤ b) : leC a b = true := by simp [leC, h]
theorem leC_f {a b : Int} (h : ¬ a ≤ b) : leC a b = false := by simp [leC]; omega
theorem ltC_t {a b : Int} (h : a < b) : ltC a b = true := by simp [ltC, h]
theorem ltC_f {a b : Int} (h : ¬ a < b) : ltC a b = false := by simp [ltC]; omega
theorem leN_t {a b : Nat} (h : a ≤ b) : leN a b = true := by simp [leN, h]
theorem cond_t {α : Type _} {b : Bool} {x y : α} (h : b = true) : cond b x y = x := by rw [h]; rfl
theorem cond_f {α : Type _} {b : Bool} {x y : α} (h : b = false) : cond b x y = y := by rw [h]; rfl
theorem in_t {i : Int} {n : Nat} (h0 : 0 ≤ i) (h1 : i < n) : (leC 0 i && ltC i (n : Int)) = true := by rw [leC_t h0, ltC_t h1]; rfl
theorem getD_at {α : Type} {a : List α} {k : Nat} (h : k < a.length) (d : α) : a.getD k d = a[k] := by simp [List.getD, List.getElem?_eq_getElem h]
theorem maxLen_eq : maxLen = 9223372036854775807 := rfl

/-! ### lengths -/
def Lens : (t : Ty) → t.den → Prop
  | .str, s => s.length ≤ maxLen
  | .sl _ e, xs => xs.length ≤ maxLen ∧ ∀ x ∈ xs, Lens e x
  | .pair a b, x => Lens a x.1 ∧ Lens b x.2
  | .bool, _ => True
  | .int _, _ => True
theorem Fits.lens : ∀ {t : Ty} {x : t.den}, Fits t x → Lens t x
  | .str, _, h => h
  | .bool, _, _ => trivial
  | .int _, _, _ => trivial
  | .pair _ _, _, h => ⟨Fits.lens h.1, Fits.lens h.2⟩
  | .sl _ _, _, h => ⟨h.1, fun x hx => Fits.lens (h.2 x hx)⟩
theorem len1 {a b : Ty} {x : (Ty.pair a b).den} (h : Lens (.pair a b) x) : Lens a x.1 := h.1
theorem len2 {a b : Ty} {x : (Ty.pair a b).den} (h : Lens (.pair a b) x) : Lens b x.2 := h.2
theorem fit1 {a b : Ty} {x : (Ty.pair a b).den} (h : Fits (.pair a b) x) : Fits a x.1 := h.1
theorem fit2 {a b : Ty} {x : (Ty.pair a b).den} (h : Fits (.pair a b) x) : Fits b x.2 := h.2
theorem lenl {t : Nat} {e : Ty} {x : (Ty.sl t e).den} (h : Lens (.sl t e) x) : x.length ≤ 9223372036854775807 := h.1
theorem lene {t : Nat} {e : Ty} {x : (Ty.sl t e).den} (h : Lens (.sl t e) x) : ∀ y ∈ x, Lens e y := h.2
def size : (t : Ty) → t.den → Nat
  | .str, s => s.length
  | .sl _ e, xs => xs.length + (xs.map (size e)).sum
  | .pair a b, x => size a x.1 + size b x.2
  | .bool, _ => 0
  | .int _, _ => 0
abbrev NB : Nat := 1048576
theorem siz1 {a b : Ty} {x : (Ty.pair a b).den} (h : size (.pair a b) x ≤ NB) : size a x.1 ≤ NB := by simp only [size] at h; omega
theorem siz2 {a b : Ty} {x : (Ty.pair a b).den} (h : size (.pair a b) x ≤ NB) : size b x.2 ≤ NB := by simp only [size] at h; omega
theorem sizl {t : Nat} {e : Ty} {x : (Ty.sl t e).den} (h : size (.sl t e) x ≤ NB) : x.length ≤ NB := by simp only [size] at h; omega
theorem sum_mem {α : Type} {l : List α} {f : α → Nat} {y : α} (hy : y ∈ l) : f y ≤ (l.map f).sum := by
  induction l with
  | nil => cases hy
  | cons a l ih =>
    rcases List.mem_cons.1 hy with rfl | h
    · simp
    · have := ih h; simp; omega
theorem size_el {t : Nat} {e : Ty} {x : (Ty.sl t e).den} (h : size (.sl t e) x ≤ NB) : ∀ y ∈ x, size e y ≤ NB := by
  intro y hy
  have := sum_mem (f := size e) hy
  simp only [size] at h
  omega

/-! ### calls, one behind the other -/
theorem bind_k {α β : Type} {o : Option α} {v : α} {k : α → Option β} {r : Option β} (h : o = some v) (hk : k v = r) : Option.bind o k = r := by subst h; exact hk

/-! ### copying -/
theorem mk_ok {n b : Nat} (h : n ≤ NB) (hb : b ≤ 100000000) : (leC 0 (n : Int) && leC (n : Int) (n : Int) && leC ((n : Int) * (b : Int)) 140737488355328 && leC (n : Int) 140737488355328) = true := by
  have h1 : n * b ≤ NB * 100000000 := Nat.mul_le_mul h hb
  simp only [NB] at h h1
  rw [leC_t (by omega), leC_t (by omega), leC_t (by rw [← Int.natCast_mul]; omega), leC_t (by omega)]
  rfl
theorem take_set_next {α : Type} {a o : List α} {k : Nat} (hk : k < a.length) (ho : o.length = a.length) (h : o.take k = a.take k) (d : α) : (o.set k (a.getD k d)).take (k + 1) = a.take (k + 1) := by
  apply List.ext_getElem?
  intro i
  rw [List.getElem?_take, List.getElem?_take]
  by_cases hi : i < k + 1
  · rw [if_pos hi, if_pos hi, List.getElem?_set]
    by_cases hik : k = i
    · subst hik
      rw [if_pos rfl, if_pos (by omega)]
      simp [List.getD, List.getElem?_eq_getElem hk]
    · rw [if_neg hik]
      have := congrArg (·[i]?) h
      simp only [List.getElem?_take, if_pos (show i < k by omega)] at this
      exact this
  · rw [if_neg hi, if_neg hi]
theorem to_loop {α R : Type} (L : List α → Int → List α → Option R) (f : α → Option (Unit × α × Unit)) (d : α) (fin : List α → Option R)
    (step : ∀ (a : List α) (i : Int) (o : List α), L a i o = bif ltC i (a.length : Int) then bif leC 0 i && ltC i (a.length : Int) then Option.bind (f (a.getD i.toNat d)) fun c => bif leC 0 i && ltC i (o.length : Int) then L a (IntKind.i64.wrap (i + 1)) (o.set i.toNat c.2.1) else none else none else fin o)
    (a : List α) (hl : a.length ≤ 9223372036854775807) (hf : ∀ x ∈ a, f x = some ((), x, ())) : ∀ (m k : Nat) (o : List α), m + k = a.length → o.length = a.length → o.take k = a.take k → L a k o = fin a
  | 0, k, o, hk, ho, h => by
    rw [step, cond_f (ltC_f (by omega))]
    have e1 : o.take k = o := List.take_of_length_le (by omega)
    have e2 : a.take k = a := List.take_of_length_le (by omega)
    rw [e1, e2] at h
    rw [h]
  | m + 1, k, o, hk, ho, h => by
    have hka : k < a.length := by omega
    have hx : a.getD k d ∈ a := by simp [List.getD, List.getElem?_eq_getElem hka]
    rw [step, cond_t (ltC_t (by omega)), cond_t (in_t (by omega) (by omega)), Int.toNat_natCast, hf _ hx, Option.bind_some, cond_t (in_t (by omega) (by omega)), wrap64 (by omega) (by omega)]
    exact to_loop L f d fin step a hl hf m (k + 1) _ (by omega) (by simpa using ho) (take_set_next hka ho h d)
theorem to_loop0 {α R : Type} (L : List α → Int → List α → Option R) (d : α) (fin : List α → Option R)
    (step : ∀ (a : List α) (i : Int) (o : List α), L a i o = bif ltC i (a.length : Int) then bif leC 0 i && ltC i (a.length : Int) then bif leC 0 i && ltC i (o.length : Int) then L a (IntKind.i64.wrap (i + 1)) (o.set i.toNat (a.getD i.toNat d)) else none else none else fin o)
    (a : List α) (hl : a.length ≤ 9223372036854775807) (k : Nat) (o : List α) (hk : k ≤ a.length) (ho : o.length = a.length) (h : o.take k = a.take k) : L a k o = fin a :=
  to_loop L (fun x => some ((), x, ())) d fin step a hl (fun _ _ => rfl) (a.length - k) k o (by omega) ho h

/-! ### comparing -/
theorem eq_loop {α R : Type} (L : List α → List α → Int → Option R) (f : α → α → Option (Unit × Bool × Unit)) (d : α) (F fin : Option R)
    (step : ∀ (a b : List α) (i : Int), L a b i = bif ltC i (a.length : Int) then bif leC 0 i && ltC i (a.length : Int) then bif leC 0 i && ltC i (b.length : Int) then Option.bind (f (a.getD i.toNat d) (b.getD i.toNat d)) fun c => bif !c.2.1 then F else L a b (IntKind.i64.wrap (i + 1)) else none else none else fin)
    (a : List α) (hl : a.length ≤ 9223372036854775807) (hf : ∀ x ∈ a, f x x = some ((), true, ())) : ∀ (m k : Nat), m + k = a.length → L a a k = fin
  | 0, k, hk => by rw [step, cond_f (ltC_f (by omega))]
  | m + 1, k, hk => by
    have hka : k < a.length := by omega
    have hx : a.getD k d ∈ a := by simp [List.getD, List.getElem?_eq_getElem hka]
    rw [step, cond_t (ltC_t (by omega)), cond_t (in_t (by omega) (by omega)), cond_t (in_t (by omega) (by omega)), Int.toNat_natCast, hf _ hx, Option.bind_some, cond_f (by rfl), wrap64 (by omega) (by omega)]
    exact eq_loop L f d F fin step a hl hf m (k + 1) (by omega)
theorem eq_loop0 {α R : Type} (L : List α → List α → Int → Option R) (q : α → α → Bool) (d : α) (F fin : Option R)
    (step : ∀ (a b : List α) (i : Int), L a b i = bif ltC i (a.length : Int) then bif leC 0 i && ltC i (a.length : Int) then bif leC 0 i && ltC i (b.length : Int) then bif q (a.getD i.toNat d) (b.getD i.toNat d) then F else L a b (IntKind.i64.wrap (i + 1)) else none else none else fin)
    (hq : ∀ x, q x x = false) (a : List α) (hl : a.length ≤ 9223372036854775807) : ∀ (m k : Nat), m + k = a.length → L a a k = fin
  | 0, k, hk => by rw [step, cond_f (ltC_f (by omega))]
  | m + 1, k, hk => by
    rw [step, cond_t (ltC_t (by omega)), cond_t (in_t (by omega) (by omega)), cond_t (in_t (by omega) (by omega)), cond_f (hq _), wrap64 (by omega) (by omega)]
    exact eq_loop0 L q d F fin step hq a hl m (k + 1) (by omega)
theorem eqg_self {α : Type} [BEq α] [ReflBEq α] (x : α) : (!(x == x)) = false := by simp
theorem neg_self {α : Type} [BEq α] [ReflBEq α] (x : α) : (x != x) = false := by simp [bne]
theorem lenLs {s : List UInt8} (h : Lens .str s) : List.length s ≤ maxLen := h
theorem lenLl {t : Nat} {e : Ty} {x : (Ty.sl t e).den} (h : Lens (.sl t e) x) : List.length x ≤ maxLen := h.1
theorem eqi_self (x : Int) : (x != x) = false := by simp
theorem eqs_self (x : List UInt8) : (!(x == x)) = false := by simp
theorem eqb_self (x : Bool) : (!(x == x)) = false := by simp

/-! ### counting -/
theorem sum_zero {α : Type} {l : List α} {f : α → Nat} (h : ∀ x, f x = 0) : (l.map f).sum = 0 := by
  induction l with
  | nil => rfl
  | cons a l ih => simp [h, ih]
def szv (s : Nat) (left : Int) : Int := if (s : Int) ≤ left then left - s else -1
abbrev SzR := Option (Unit × Int × Unit)
theorem sz_end {l : Int} (h0 : 0 ≤ l) : (some ((), l, ()) : SzR) = some ((), szv 0 l, ()) := by simp [szv, h0]
theorem sz_bind {s r : Nat} {left : Int} {o : SzR} {k : Unit × Int × Unit → SzR} (ho : o = some ((), szv s left, ())) (h0 : 0 ≤ left) (h1 : left ≤ 1048576)
    (hk : ∀ l : Int, 0 ≤ l → l ≤ 1048576 → k ((), l, ()) = some ((), szv r l, ())) : (Option.bind o fun c => bif ltC c.2.1 0 then some ((), -1, ()) else k c) = some ((), szv (s + r) left, ()) := by
  subst ho
  simp only [Option.bind_some]
  unfold szv
  split
  · rw [cond_f (ltC_f (by omega)), hk _ (by omega) (by omega)]
    unfold szv
    congr 3
    split <;> split <;> omega
  · rw [cond_t (ltC_t (by omega)), if_neg (by omega)]
theorem sz_len {n r : Nat} {left : Int} {k : SzR} (hn : n ≤ maxLen) (h0 : 0 ≤ left) (h1 : left ≤ 1048576)
    (hk : 0 ≤ left - n → k = some ((), szv r (left - n), ())) : (bif ltC (left - n) 0 then some ((), -1, ()) else k) = some ((), szv (n + r) left, ()) := by
  by_cases h : 0 ≤ left - n
  · rw [cond_f (ltC_f (by omega)), hk h]
    unfold szv
    congr 3
    split <;> split <;> omega
  · rw [cond_t (ltC_t (by omega))]
    unfold szv
    rw [if_neg (by omega)]
theorem wrap_len {n : Nat} {left : Int} (hn : n ≤ maxLen) (h0 : 0 ≤ left) (h1 : left ≤ 1048576) : IntKind.i64.wrap (left - n) = left - n := by
  rw [maxLen_eq] at hn
  exact wrap64 (by omega) (by omega)
theorem sz_eq {a b : Nat} {left : Int} {o : SzR} (h : o = some ((), szv a left, ())) (e : a = b) : o = some ((), szv b left, ()) := e ▸ h
theorem sz_loop {α : Type} (L : List α → Int → Int → SzR) (f : α → Int → SzR) (d : α) (s : α → Nat)
    (step : ∀ (a : List α) (left i : Int), L a left i = bif ltC i (a.length : Int) then bif leC 0 i && ltC i (a.length : Int) then Option.bind (f (a.getD i.toNat d) left) fun c => bif ltC c.2.1 0 then some ((), -1, ()) else L a c.2.1 (IntKind.i64.wrap (i + 1)) else none else some ((), left, ()))
    (a : List α) (hl : a.length ≤ 9223372036854775807) (hf : ∀ x ∈ a, ∀ left : Int, 0 ≤ left → left ≤ 1048576 → f x left = some ((), szv (s x) left, ())) : ∀ (m k : Nat) (left : Int), m + k = a.length → 0 ≤ left → left ≤ 1048576 → L a left k = some ((), szv ((a.drop k).map s).sum left, ())
  | 0, k, left, hk, h0, h1 => by
    rw [step, cond_f (ltC_f (by omega)), List.drop_eq_nil_of_le (by omega)]
    exact sz_end h0
  | m + 1, k, left, hk, h0, h1 => by
    have hka : k < a.length := by omega
    have hx : a.getD k d ∈ a := by simp [List.getD, List.getElem?_eq_getElem hka]
    rw [step, cond_t (ltC_t (by omega)), cond_t (in_t (by omega) (by omega)), Int.toNat_natCast]
    refine sz_eq (sz_bind (k := fun c => L a c.2.1 (IntKind.i64.wrap ((k : Int) + 1))) (hf _ hx left h0 h1) h0 h1 fun l h2 h3 => ?_) (b := ((a.drop k).map s).sum) (a := s (a.getD k d) + ((a.drop (k + 1)).map s).sum) ?_
    · simp only
      rw [wrap64 (by omega) (by omega)]
      exact sz_loop L f d s step a hl hf m (k + 1) l (by omega) h2 h3
    · rw [List.drop_eq_getElem_cons hka, List.map_cons, List.sum_cons, getD_at hka _]
theorem sz_loop0 (L : List (List UInt8) → Int → Int → SzR)
    (step : ∀ (a : List (List UInt8)) (left i : Int), L a left i = bif ltC i (a.length : Int) then bif leC 0 i && ltC i (a.length : Int) then bif ltC (IntKind.i64.wrap (left - ((a.getD i.toNat []).length : Int))) 0 then some ((), -1, ()) else L a (IntKind.i64.wrap (left - ((a.getD i.toNat []).length : Int))) (IntKind.i64.wrap (i + 1)) else none else some ((), left, ()))
    (a : List (List UInt8)) (hl : a.length ≤ 9223372036854775807) (hf : ∀ x ∈ a, x.length ≤ maxLen) : ∀ (m k : Nat) (left : Int), m + k = a.length → 0 ≤ left → left ≤ 1048576 → L a left k = some ((), szv ((a.drop k).map List.length).sum left, ())
  | 0, k, left, hk, h0, h1 => by
    rw [step, cond_f (ltC_f (by omega)), List.drop_eq_nil_of_le (by omega)]
    exact sz_end h0
  | m + 1, k, left, hk, h0, h1 => by
    have hka : k < a.length := by omega
    have hx : a.getD k [] ∈ a := by simp [List.getD, List.getElem?_eq_getElem hka]
    rw [step, cond_t (ltC_t (by omega)), cond_t (in_t (by omega) (by omega)), Int.toNat_natCast, wrap_len (hf _ hx) h0 h1, wrap64 (n := (k : Int) + 1) (by omega) (by omega)]
    refine sz_eq (sz_len (hf _ hx) h0 h1 fun h2 => sz_loop0 L step a hl hf m (k + 1) _ (by omega) h2 (by omega)) ?_
    rw [List.drop_eq_getElem_cons hka, List.map_cons, List.sum_cons, getD_at hka _]
end Go.Proofs.YtglbaihiibdemaaGreatDoor.Am
