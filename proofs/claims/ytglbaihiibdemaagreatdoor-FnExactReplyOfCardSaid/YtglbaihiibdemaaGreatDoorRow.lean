/- What is proved here: the statement's row and its card, from the law's own theorem. -/
import Derived.Test.YtglbaihiibdemaaGreatDoorLaw
import Derived.Test.YtglbaihiibdemaaGreatDoorIn
import Derived.Test.YtglbaihiibdemaaGreatDoorRows
import Derived.Test.YtglbaihiibdemaaGreatDoorCards
import Derived.Test.YtglbaihiibdemaaGreatDoorTie
import Derived.ProofKit
import Derived.LaidMore
import Derived.OpenShut
import Derived.Stop.Joined
import Derived.SevenTiedAt
import Derived.Stop.LaidErr
namespace Go.Proofs.YtglbaihiibdemaaGreatDoor
set_option maxRecDepth 100000
open Go.ChangeShapes Go.WideShapes Go.ChangeAt Go.WideMaps Go.WideElems Go.RowKit
open Go.Proofs.YtglbaihiibdemaaGreatDoor.Am (Kept Rep Fits okT trod_rep Ty ArgRel)

theorem Tryz.own : ownKnob Tryz.prog.godebug = none := by kernel_rfl
theorem Tryz.laidOut : laidOutB Tryz.prog = true := by kernel_rfl
theorem gPow : Tryz.prog.globalNamed "internal/strconv.uint64pow10" = some 0 := by kernel_rfl
theorem door_met (os : Os) (args : Array Value) : laidMetH Tryz.prog Rows.fnExactReplyOfRow.laid ((World.doorLaid Tryz.prog 24 os).forCall (fun _ _ => 0) ⟨#[], args, []⟩).memory :=
  laidMetH_of_parts3 (fuel := 8) (laidMet_of_run' 8 (by kernel_rfl) (by kernel_rfl)) (by kernel_rfl) (by kernel_rfl)
theorem tab_of_laid {W : World} (h : laidMetH Tryz.prog Rows.fnExactReplyOfRow.laid W) : Lib.TabIs Tryz.prog W "internal/strconv.uint64pow10" .u64 Lib.pow10Tab := by
  rw [MakeChecks.laidMetH_plain _ _ _ (by kernel_rfl)] at h
  exact Lib.tabIs_of_head gPow (t := 225) (e := 216) (n := 20) (by kernel_rfl) (by kernel_rfl) (by kernel_rfl) (by kernel_rfl) (by kernel_rfl) (show laidMet Tryz.prog (("internal/strconv.uint64pow10", Lib.tabData .u64 Lib.pow10Tab) :: []) W from Go.laidMet.tail (Go.laidMet.tail h))
/-- what is handed in, as the machine's data -/
theorem arg_in {H : Type} {enc : TypeId × Value → H} {W : World} {b : Nat} {t : TypeId} {T : Ty} {v : Value} {d : DataW H} {p : List MemPlace} (hagg : Am.tagg Tryz.prog t = true) (hT : okT Tryz.prog 200 t T = true) (hval : Value.okWide Tryz.prog W .any b t v) (h : DataW.Trod enc Tryz.prog W 0 (fun _ => true) true t v d p) :
    ∃ (x : T.den) (cs : List Value), v = .agg cs.toArray ∧ Rep W (fun k => k < W.heap.size ∧ k ∉ ([] : List Nat)) T x cs ∧ Fits T x := by
  unfold Am.tagg at hagg
  unfold Value.okWide at hval
  obtain ⟨cs, rfl⟩ : ∃ cs, v = .agg cs := by
    split at hagg
    · rename_i fs hu
      simp only [hu] at hval
      exact ⟨_, hval.choose_spec.1⟩
    · rename_i n e hu
      simp only [hu] at hval
      exact ⟨_, hval.choose_spec.1⟩
    · cases hagg
  obtain ⟨fuel, hf⟩ := h
  obtain ⟨x, hr, hfit⟩ := (trod_rep 200).1 hT hf
  exact ⟨x, cs.toList, by simp, Rep.move (fun _ hb => ⟨hb, by simp⟩) (fun _ _ => rfl) hr, hfit⟩

set_option maxRecDepth 100000 in
theorem lifted (os : Os) (started : os.Started) (H : Type) (enc : TypeId × Value → H) :
    ReturnsInHanded {} Tryz.checked os 3 .any (fun w args => (Rows.fnExactReplyOfSpec.pre enc Tryz.prog Tryz.f3 [] false w args ∧ laidMetH Tryz.prog Rows.fnExactReplyOfRow.laid w) ∧ sizedMet enc Tryz.prog Tryz.f3 (OpenSpec.ofChange Rows.fnExactReplyOfSpec) false w args)
      (Rows.fnExactReplyOfSpec.post enc Tryz.prog Tryz.f3 false true false false) := by
  refine returnsInHanded_of_change_and (C := Tryz.checked) (X := fun w _ => laidMetH Tryz.prog Rows.fnExactReplyOfRow.laid w) (fun _ _ _ hh h => h.of_heap hh) Tryz.own started (by kernel_rfl) Tryz.func3
    (ChangeSpec.witness_shaped (enc := enc) (C := Tryz.checked) (os := os) (X := fun w _ => laidMetH Tryz.prog Rows.fnExactReplyOfRow.laid w) false (World.doorLaid Tryz.prog 24 os) #[((Tryz.prog.info? 31).bind (·.zero)).getD (.bool false)] 8 rfl (World.shaped_of_RefB (by kernel_rfl) (by kernel_rfl)) (by kernel_rfl) (by kernel_rfl) (by kernel_rfl) (door_met os _)) ?_
  intro W base args ds gs before hval0 hW _ _ hL _
  have hval : ∀ (j : Nat) t v, Tryz.f3.params[j]? = some t → args[j]? = some v → Value.okWide Tryz.prog W .any base t v := hval0
  have hW' := hW
  obtain ⟨p, q, hA0, hV, rfl, hfz, hnd⟩ := hW
  have hA : DataW.TrodAll enc Tryz.prog W 0 (fun _ => true) true Tryz.f3.params.toList args.toList ds p := hA0
  rw [Tryz.params3] at hA hval
  obtain ⟨v0, d0, rfl, rfl, h0⟩ := trodAll_one hA
  obtain ⟨rfl, rfl⟩ := trodVars_none hV
  obtain ⟨x, cs, rfl, hrep, hfit⟩ := arg_in (T := Fn.T_laws_Cluster) (by kernel_rfl) (by kernel_rfl) (hval 0 31 v0 rfl rfl) h0
  clear hA0 hval0
  simp only [List.append_nil] at hW'
  have hlt : ∀ y ∈ p, y.block < W.heap.size := fun y hy => hW'.lt y hy
  refine (Fn.s_laws_FnExactReplyOf.1 W [.agg cs.toArray] () (x, ()) [] () (true, ()) ⟨_, _, _, rfl, rfl, hrep, rfl, rfl⟩ (by simp) (tab_of_laid hL) (Fn.law_true x hfit)).mono fun e W' hp => ?_
  obtain ⟨rvs, S, T, rfl, hk, hres, -, -, -⟩ := hp
  obtain ⟨v, vs', cs', S1, S2, rfl, rfl, hv, ho, hr⟩ := hres
  obtain ⟨rfl, rfl⟩ := hr
  obtain ⟨rfl, rfl⟩ := ho
  obtain rfl : Value.bool true = v := by simpa [Am.ArgVal] using hv
  have hb : Below W.heap.size W W' := hk.below
  exact ⟨_, rfl, _, _, _, [], p, [], hW', trodAll_mk1 (shut_bool Tryz.underlying4 _), trodAll_mk1 (Below.trod Tryz.laidOut (by kernel_rfl) (of_decide_eq_true (by kernel_rfl)) h0 hb hlt), rfl, hb.frame _, fun h => by cases h⟩

theorem row_holds : Rows.FnExactReplyOfSaid :=
  OpenClaim.holds_of_wide 3 Tryz.f3 rfl rfl rfl rfl rfl rfl rfl ⟨rfl, rfl, rfl, rfl, rfl⟩ rfl rfl rfl rfl rfl (by kernel_rfl) Tryz.func3 (by kernel_rfl)
    (of_decide_eq_true (by kernel_rfl)) (by unfold Func.isWrapper; first | (rw [if_pos (by decide +kernel)]; kernel_rfl) | (rw [if_neg (by decide +kernel)]; exact ⟨rfl, rfl⟩))
    (fun os started H enc _ => lifted os started H enc)
theorem card_holds : Rows.FnExactReplyOfCardSaid :=
  Claim7.holds_tied_plain_at .later [] [.data, .data, .data] true (true, Rows.fnExactReplyOfCard.stood.harness.2) false
    row_holds (fun _ h => by cases h) (by kernel_rfl) (fun _ h => by cases h) fnExactReplyOf_row_tie rfl ⟨rfl, rfl⟩ (by kernel_rfl) rfl
    (fun f fn hf hfn => by
      obtain rfl : f = 3 := Option.some.inj ((show Tryz.prog.funcNamed Rows.fnExactReplyOfRow.func = some 3 by kernel_rfl).symm.trans hf) |>.symm
      obtain rfl : fn = Tryz.f3 := (Option.some.inj (Tryz.func3.symm.trans hfn)).symm
      exact ⟨by kernel_rfl, fun j t ht => by
        rw [Tryz.params3] at ht
        have hm : t ∈ [31] := by simpa using Array.mem_of_getElem? ht
        have hall : ([31].all fun u => !Tryz.prog.wantsStandIn u) = true := by kernel_rfl
        exact (show Tryz.prog.wantsStandIn t = false by simpa using List.all_eq_true.1 hall t hm)⟩)
    (by kernel_rfl)
end Go.Proofs.YtglbaihiibdemaaGreatDoor
