/- What is proved here: strconv.Itoa's contract, in the machine's words; it leans on the library's table of powers of ten. -/
import Derived.Test.YtglbaihiibdemaaGreatDoorBld
namespace Go.Proofs.YtglbaihiibdemaaGreatDoor.Am
open Go Go.Shelf Go.RowKit
set_option autoImplicit false

/-- the library's table reads as the program's text lays it -/
theorem tab_keep {P : Program} {name : String} {k : IntKind} {zs : List Int} {w w' : World} (hb : Kept [] w w') (h : Lib.TabIs P w name k zs) : Lib.TabIs P w' name k zs := by
  unfold Lib.TabIs World.var? at *
  cases hg : P.globalNamed name with
  | none => simp [hg] at h
  | some g =>
    simp only [hg, Option.bind_some] at h ⊢
    have hlt : g < w.heap.size := by
      rcases Nat.lt_or_ge g w.heap.size with h' | h'
      · exact h'
      · rw [Array.getElem?_eq_none h'] at h; simp at h
    rw [hb.block g hlt (by simp)]
    exact h
def tabG (P : Program) : Glob := ⟨fun w => Lib.TabIs P w "internal/strconv.uint64pow10" .u64 Lib.pow10Tab, fun _ _ hk h => tab_keep hk h⟩
abbrev GT : Glob := tabG Tryz.prog
theorem kept_grow {w : World} (k : Nat) (os : Array Obj) : Kept [] w (Sort.grow (w.drewN k) os) :=
  ⟨rfl, rfl, rfl, by simp [Sort.grow, World.drewN], fun i hi _ => by simp [Sort.grow, World.drewN, Array.getElem?_append_left hi]⟩
def pInt : List Par := [⟨.val, false, .int .i64⟩]
def rStr : List (Bool × Ty) := [(false, .str)]
def CItoa : TakD pInt → ValD pInt → Option (MutD pInt × ResD rStr) := fun _ v => bif decide (-9223372036854775808 ≤ v.1) && decide (v.1 ≤ 9223372036854775807) then some ((), Lib.itoa v.1, ()) else none
theorem sItoa : RowOk Tryz.prog GT 140 5 63 (.sig ⟨pInt, rStr, CItoa⟩) := by
  refine ⟨?_, enters_fn (by kernel_rfl)⟩
  intro w vs td vd M md rd ha hM hG he
  obtain ⟨v, vs', cs, rfl, hv, hr, rfl, rfl⟩ := ha
  simp only [CItoa, cond_eq_ite, Bool.and_eq_true, decide_eq_true_eq] at he
  split at he
  · rename_i hb
    simp only [Option.some.injEq, Prod.mk.injEq] at he
    obtain ⟨rfl, rfl⟩ := he
    simp only [Rep] at hr
    subst hr
    obtain rfl : Value.int .i64 vd.1 = v := by simpa [ArgVal] using hv
    refine (Tryz.strconv_Itoa vd.1 hb.1 hb.2 w hG).mono ?_
    rintro e w' ⟨rfl, k, os, rfl⟩
    exact ⟨_, [], [], rfl, kept_grow k os, ⟨_, [], _, [], [], rfl, rfl, by simp [ArgVal], ⟨rfl, rfl⟩, rfl, rfl⟩, rfl, by simp, by simp⟩
  · cases he
end Go.Proofs.YtglbaihiibdemaaGreatDoor.Am
