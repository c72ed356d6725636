/- What is proved here: tables of contracts as lists; contracts that say less. -/
import Derived.Test.YtglbaihiibdemaaGreatDoorAm26
import Derived.Test.YtglbaihiibdemaaGreatDoorAm27
namespace Go.Proofs.YtglbaihiibdemaaGreatDoor.Am
open Go
set_option autoImplicit false

def lkS : List (Nat × Callee) → FuncId → Callee
  | [], _ => .no
  | (g, c) :: r, f => cond (Nat.beq g f) c (lkS r f)
/-- a table of slots -/
def lkT : List (Nat × Nat × List Nat) → FuncId → Nat → List Nat
  | [], _, _ => []
  | (g, k, l) :: r, f, n => cond (Nat.beq g f && Nat.beq k n) l (lkT r f n)
theorem lkS_mem : ∀ {l : List (Nat × Callee)} {f : FuncId} {c : Callee}, lkS l f = c → (∀ h : c = .no, False) → (f, c) ∈ l
  | [], _, _, h, hn => (hn h.symm).elim
  | (g, d) :: r, f, c, h, hn => by
    simp only [lkS] at h
    cases hb : Nat.beq g f with
    | true =>
      rw [hb, cond_true] at h
      obtain rfl := Nat.eq_of_beq_eq_true hb
      exact h ▸ List.mem_cons_self
    | false =>
      rw [hb, cond_false] at h
      exact List.mem_cons_of_mem _ (lkS_mem h hn)
/-- what one row of a table asks -/
def RowOk (P : Program) (G : Glob) (bld u8 : TypeId) (f : FuncId) : Callee → Prop
  | .no => True
  | .sig s => Sound P G f s ∧ Enters P f
  | .inl => Enters P f
  | .bldWrite => BldWriteOk ⟨P, G, fun _ => .no, bld, u8⟩ f ∧ Enters P f
  | .bldString => BldStringOk ⟨P, G, fun _ => .no, bld, u8⟩ f ∧ Enters P f
def RowsOk (P : Program) (G : Glob) (bld u8 : TypeId) : List (Nat × Callee) → Prop
  | [] => True
  | p :: r => RowOk P G bld u8 p.1 p.2 ∧ RowsOk P G bld u8 r
theorem RowsOk.mem {P : Program} {G : Glob} {bld u8 : TypeId} : ∀ {l : List (Nat × Callee)} {p : Nat × Callee}, RowsOk P G bld u8 l → p ∈ l → RowOk P G bld u8 p.1 p.2
  | q :: r, p, h, hp => by
    rcases List.mem_cons.1 hp with rfl | hp
    · exact h.1
    · exact h.2.mem hp
theorem tabOk {P : Program} {G : Glob} {bld u8 : TypeId} {l : List (Nat × Callee)} (hb : (P.info? bld).map (·.zero) = some (some (.agg #[.pointer none, .slice none 0 0]))) (h : RowsOk P G bld u8 l) : TabOk ⟨P, G, lkS l, bld, u8⟩ :=
  ⟨⟨hb⟩, fun f s hs => h.mem (lkS_mem hs fun e => by cases e), fun f hs => h.mem (lkS_mem hs fun e => by cases e), fun f hs => h.mem (lkS_mem hs fun e => by cases e), fun f hs => h.mem (lkS_mem hs fun e => by cases e)⟩
theorem enters_fn {P : Program} {f : FuncId} (h : (match P.funcs[f]? with | some fn => !(fn.name == "runtime.NumGoroutine") && fn.body.isSome | none => false) = true) : Enters P f := by
  intro args w
  cases hf : P.funcs[f]? with
  | none => rw [hf] at h; cases h
  | some fn =>
    rw [hf] at h
    simp only [Bool.and_eq_true, Bool.not_eq_true', beq_eq_false_iff_ne, ne_eq] at h
    obtain ⟨c, hb⟩ := Option.isSome_iff_exists.1 h.2
    simp [callFunc, hf, h.1, hb, mark]
theorem Sound.mono {P : Program} {G : Glob} {f : FuncId} {ps : List Par} {rs : List (Bool × Ty)} {F F' : TakD ps → ValD ps → Option (MutD ps × ResD rs)} (h : Sound P G f ⟨ps, rs, F'⟩) (hF : ∀ td vd o, F td vd = some o → F' td vd = some o) : Sound P G f ⟨ps, rs, F⟩ :=
  fun w vs td vd M md rd ha hM hG he => h w vs td vd M md rd ha hM hG (hF _ _ _ he)
end Go.Proofs.YtglbaihiibdemaaGreatDoor.Am
