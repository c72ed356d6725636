/- What is proved here: an argument that reads as data lies in memory as the machine's own data; its numbers and lengths are in range. -/
import Derived.Test.YtglbaihiibdemaaGreatDoorAm28
import Derived.ChangeArms
import Derived.Deep.Slices
namespace Go.Proofs.YtglbaihiibdemaaGreatDoor.Am
open Go
set_option autoImplicit false

/-- numbers in range, lengths that an int can tell -/
def Fits : (t : Ty) → t.den → Prop
  | .int k, x => k.min ≤ x ∧ x ≤ k.max
  | .str, s => s.length ≤ maxLen
  | .sl _ e, xs => xs.length ≤ maxLen ∧ ∀ x ∈ xs, Fits e x
  | .pair a b, x => Fits a x.1 ∧ Fits b x.2
  | .bool, _ => True

mutual
def okT (P : Program) : Nat → TypeId → Ty → Bool
  | 0, _, _ => false
  | n + 1, t, T => match P.underlying t, T with
    | some (.int k), .int k' => IntKind.same k k'
    | some .bool, .bool => true
    | some .string, .str => true
    | some (.slice e), .sl _ E => okT P n e E && Nat.beq (P.cellsOf e) E.n
    | some (.struct fs), T => okF P n fs.toList 0 T && Nat.beq (P.cellsOf t) T.n
    | _, _ => false
def okF (P : Program) : Nat → List Field → Nat → Ty → Bool
  | 0, _, _, _ => false
  | _ + 1, [], _, _ => false
  | n + 1, [f], off, T => Nat.beq f.offset off && Nat.beq (P.cellsOf f.type) T.n && okT P n f.type T
  | n + 1, f :: g :: r, off, .pair a b => Nat.beq f.offset off && Nat.beq (P.cellsOf f.type) a.n && okT P n f.type a && okF P n (g :: r) (off + a.n) b
  | _ + 1, _ :: _ :: _, _, _ => false
end

section
variable {H : Type} {enc : TypeId × Value → H} {P : Program} {w : World} {base : Nat} {spare : Nat → Bool} {held : Bool}

theorem mapM_range_get {α : Type} {n : Nat} {f : Nat → Option α} {l : List α} (h : (List.range n).mapM f = some l) : l.length = n ∧ ∀ i, i < n → f i = l[i]? := by
  induction n generalizing l with
  | zero => simp at h; subst h; simp
  | succ n ih =>
    rw [List.range_succ, List.mapM_append] at h
    simp only [Option.bind_eq_bind, Option.bind_eq_some_iff, List.mapM_cons, List.mapM_nil, Option.pure_def] at h
    obtain ⟨a, ha, b, ⟨c, hc, d, hd, he⟩, hl⟩ := h
    simp only [Option.some.injEq] at hd he hl
    subst hd; subst he; subst hl
    obtain ⟨h1, h2⟩ := ih ha
    refine ⟨by simp [h1], fun i hi => ?_⟩
    by_cases hin : i < n
    · rw [h2 i hin, List.getElem?_append_left (by omega)]
    · obtain rfl : i = n := by omega
      rw [hc, List.getElem?_append_right (by omega), h1]
      simp
theorem cells_get {a : Addr} {n : Nat} {cs : List Value} (h : w.cells? base a n = some cs) : cs.length = n ∧ ∀ (j : Nat) (u : Value), cs[j]? = some u → w.cell? (a.add j) = some u := by
  unfold World.cells? at h
  split at h
  · obtain ⟨h1, h2⟩ := mapM_range_get h
    refine ⟨h1, fun j u hu => ?_⟩
    have := (List.getElem?_eq_some_iff.1 hu).1
    rw [h2 j (by omega), hu]
  · cases h
theorem cell_lt {a : Addr} {v : Value} (h : w.cell? a = some v) : a.block < w.heap.size ∧ a.spot = none := by
  unfold World.cell? at h
  split at h
  · rename_i hb
    refine ⟨(Array.getElem?_eq_some_iff.1 hb).1, ?_⟩
    split at h
    · cases h
    · rename_i hs
      simpa using hs
  · cases h
theorem add_at {a : Addr} (ha : a.spot = none) (n : Nat) : a.add n = ⟨a.block, a.off + n, none⟩ := by
  obtain ⟨b, o, s⟩ := a
  simp only at ha
  subst ha
  unfold Addr.add
  split
  · rename_i h; simp [h]
  · rfl
theorem list_of_fun {α : Type} {n : Nat} {Q : Nat → α → Prop} (h : ∀ i, i < n → ∃ y, Q i y) : ∃ l : List α, l.length = n ∧ ∀ (i : Nat) (y : α), l[i]? = some y → Q i y := by
  induction n with
  | zero => exact ⟨[], rfl, by simp⟩
  | succ n ih =>
    obtain ⟨l, h1, h2⟩ := ih fun i hi => h i (by omega)
    obtain ⟨y, hy⟩ := h n (by omega)
    refine ⟨l ++ [y], by simp [h1], fun i z hz => ?_⟩
    by_cases hin : i < n
    · rw [List.getElem?_append_left (by omega)] at hz
      exact h2 i z hz
    · rw [List.getElem?_append_right (by omega)] at hz
      have h3 : i - l.length = 0 := by
        have := (List.getElem?_eq_some_iff.1 hz).1
        simpa using this
      rw [h3] at hz
      obtain rfl : i = n := by omega
      simp at hz
      exact hz ▸ hy
theorem trod_rep : ∀ (n : Nat),
    (∀ {t : TypeId} {T : Ty} {fuel : Nat} {cs : List Value} {x : DataW H × List MemPlace}, okT P n t T = true → DataW.trod enc P w base spare held fuel t cs = some x → ∃ y : T.den, Rep w (fun b => b < w.heap.size) T y cs ∧ Fits T y) ∧
    (∀ {fs : List Field} {off : Nat} {T : Ty} {fuel : Nat} {cs : List Value}, okF P n fs off T = true → off + T.n = cs.length → (∀ f ∈ fs, ∃ x, DataW.trod enc P w base spare held fuel f.type ((cs.drop f.offset).take (P.cellsOf f.type)) = some x) → ∃ y : T.den, Rep w (fun b => b < w.heap.size) T y (cs.drop off) ∧ Fits T y)
  | 0 => ⟨fun h => by simp [okT] at h, fun h => by simp [okF] at h⟩
  | n + 1 => by
    obtain ⟨ih1, ih2⟩ := trod_rep n
    constructor
    · intro t T fuel cs x hok hx
      simp only [okT] at hok
      split at hok
      · rename_i k k' hu
        obtain rfl := IntKind.same_eq hok
        obtain ⟨m, rfl, _, hw⟩ := DataW.trod_int hu hx
        simp only [Lit.wf, Bool.and_eq_true, decide_eq_true_eq] at hw
        exact ⟨m, rfl, hw⟩
      · rename_i hu
        obtain ⟨b, rfl, _⟩ := DataW.trod_bool hu hx
        exact ⟨b, rfl, trivial⟩
      · rename_i hu
        obtain ⟨s, rfl, _, hs⟩ := DataW.trod_string hu hx
        exact ⟨s.data.toList, rfl, by simpa [Fits] using hs⟩
      · rename_i e tid E hu
        rw [Bool.and_eq_true] at hok
        have hce : P.cellsOf e = E.n := Nat.eq_of_beq_eq_true hok.2
        rcases DataW.trod_slice hu hx with ⟨rfl, _⟩ | ⟨a, len, cap, elems, rest, m, _, rfl, _, _, hl, hm, hel, hget, _⟩
        · exact ⟨[], ⟨none, 0, rfl, Nat.le_refl _, fun i x hx => by simp at hx⟩, by simp [Fits]⟩
        · have hin : ∀ i, i < len → ∃ y : E.den, (∃ c, w.cells? base (a.add (i * E.n)) E.n = some c ∧ Rep w (fun b => b < w.heap.size) E y c) ∧ Fits E y := by
            intro i hi
            have := hget i hi
            rw [List.getElem?_eq_getElem (by omega), hce] at this
            obtain ⟨c, hc1, hc2⟩ := Option.bind_eq_some_iff.1 this
            obtain ⟨y, h1, h2⟩ := ih1 hok.1 hc2
            exact ⟨y, ⟨c, hc1, h1⟩, h2⟩
          obtain ⟨l, hlen, hl2⟩ := list_of_fun hin
          have hsp : 0 < len → a.spot = none ∧ a.block < w.heap.size := by
            intro h0
            obtain ⟨y, ⟨c, hc, hr⟩, _⟩ := hin 0 h0
            obtain ⟨h1, h2⟩ := cells_get hc
            have hp := E.n_pos
            have h3 := h2 0 _ (List.getElem?_eq_getElem (by omega))
            simp only [Nat.zero_mul] at h3
            have h4 := cell_lt h3
            simpa [Addr.add] using h4.symm
          refine ⟨l, ⟨some a, cap, by rw [hlen], by omega, fun i y hy => ?_⟩, by omega, fun y hy => ?_⟩
          · have hi : i < len := by rw [← hlen]; exact (List.getElem?_eq_some_iff.1 hy).1
            obtain ⟨⟨c, hc, hr⟩, _⟩ := hl2 i y hy
            obtain ⟨hs, hb⟩ := hsp (by omega)
            refine ⟨a, c, rfl, hs, hb, hr, fun j u hu => ?_⟩
            have := (cells_get hc).2 j u hu
            rw [add_at hs, add_at rfl] at this
            simpa [Nat.add_assoc] using this
          · obtain ⟨i, hi⟩ := List.getElem?_of_mem hy
            exact (hl2 i y hi).2
      · rename_i T1 T2 fs hu
        rw [Bool.and_eq_true] at hok
        have hce := Nat.eq_of_beq_eq_true hok.2
        obtain ⟨xs, m, _, _, hlen, hxl, hget⟩ := DataW.trod_struct hu hx
        obtain ⟨y, h1, h2⟩ := ih2 (cs := cs) (fuel := m) hok.1 (by omega) (fun f hf => by
          obtain ⟨i, hi⟩ := List.getElem?_of_mem hf
          have hi' : fs[i]? = some f := by simpa using hi
          have h3 := hget i f hi'
          have h4 : i < xs.length := by rw [hxl]; exact (Array.getElem?_eq_some_iff.1 hi').1
          exact ⟨xs[i], by rw [h3]; exact List.getElem?_eq_getElem h4⟩)
        exact ⟨y, by simpa using h1, h2⟩
      · cases hok
    · intro fs off T fuel cs hok hlen hall
      match fs, T with
      | [], _ => simp [okF] at hok
      | [f], T =>
        simp only [okF, Bool.and_eq_true] at hok
        have h1 := Nat.eq_of_beq_eq_true hok.1.1
        have h2 := Nat.eq_of_beq_eq_true hok.1.2
        obtain ⟨x, hx⟩ := hall f (by simp)
        obtain ⟨y, h3, h4⟩ := ih1 hok.2 hx
        refine ⟨y, ?_, h4⟩
        rw [h1, h2, List.take_of_length_le (by rw [List.length_drop]; omega)] at h3
        exact h3
      | f :: g :: r, .pair a b =>
        simp only [okF, Bool.and_eq_true] at hok
        have h1 := Nat.eq_of_beq_eq_true hok.1.1.1
        have h2 := Nat.eq_of_beq_eq_true hok.1.1.2
        obtain ⟨x, hx⟩ := hall f (by simp)
        obtain ⟨y, h3, h4⟩ := ih1 hok.1.2 hx
        simp only [Ty.n] at hlen
        obtain ⟨z, h5, h6⟩ := ih2 (cs := cs) (fuel := fuel) hok.2 (by omega) (fun f' hf' => hall f' (List.mem_cons_of_mem _ hf'))
        refine ⟨(y, z), ⟨_, _, ?_, h3, h5⟩, h4, h6⟩
        rw [h1, h2, ← List.drop_drop]
        exact (List.take_append_drop _ _).symm
      | _ :: _ :: _, .int _ => simp [okF] at hok
      | _ :: _ :: _, .bool => simp [okF] at hok
      | _ :: _ :: _, .str => simp [okF] at hok
      | _ :: _ :: _, .sl _ _ => simp [okF] at hok
end
end Go.Proofs.YtglbaihiibdemaaGreatDoor.Am
