/- What is proved here: THE EVALUATOR OF A FUNCTION GIVES ITS CONTRACT. -/
import Derived.Test.YtglbaihiibdemaaGreatDoorAm25
namespace Go.Proofs.YtglbaihiibdemaaGreatDoor.Am
open Go
set_option autoImplicit false
variable {X : Ctx} {mine : Nat → Prop} {w w' w'' : World} {g g' g'' : Gh} {lk lk' : Nat → Option AObj} {E E' : Env} {a : Act} {n : Nat} {o : Oper}

def readsPs (ps : List Par) : Bool := ps.all fun p => match p.mode with | .val => true | _ => false
theorem argAVs_reads {ok okc : Nat → Prop} (hok : ∀ b, okc b → ok b) : ∀ {ps : List Par} {vs : List Value} {td : TakD ps} {vd : ValD ps} {M : List Nat} (H : Heap), readsPs ps = true → ArgRel w okc ps vs td vd M →
    M = [] ∧ (argAVs ps td vd H).2 = H ∧ All2 (AVRel w ok g lk) (argAVs ps td vd H).1 vs ∧ mutPtrs ps (argAVs ps td vd H).1 = []
  | [], _, _, _, _, H, _, h => by obtain ⟨rfl, rfl⟩ := h; exact ⟨rfl, rfl, trivial, rfl⟩
  | ⟨.val, agg, t⟩ :: r, vs, td, vd, M, H, hr, h => by
    obtain ⟨v, vs', cs, rfl, hv, hrep, h⟩ := h
    obtain ⟨h1, h2, h3, h4⟩ := argAVs_reads hok (ps := r) H (by simpa [readsPs] using hr) h
    refine ⟨h1, h2, ⟨?_, h3⟩, h4⟩
    refine mkAV_rel (cells_of_rep (Rep.move hok (fun _ _ => rfl) hrep)) (fun ha => ?_) fun ha => ?_
    · subst ha; simpa [ArgVal] using hv
    · subst ha; simpa [ArgVal] using hv
  | ⟨.own, _, _⟩ :: _, _, _, _, _, _, hr, _ => by simp [readsPs] at hr
  | ⟨.mutp _, _, _⟩ :: _, _, _, _, _, _, hr, _ => by simp [readsPs] at hr
theorem mutRel_of {w : World} : ∀ {ps : List Par} {vs : List Value} {md : MutD ps}, readsPs ps = true → MutRel w ps vs md []
  | [], _, _, _ => rfl
  | ⟨.val, _, _⟩ :: r, vs, md, hr => mutRel_of (ps := r) (by simpa [readsPs] using hr)
  | ⟨.own, _, _⟩ :: _, _, _, hr => by simp [readsPs] at hr
  | ⟨.mutp _, _, _⟩ :: _, _, _, hr => by simp [readsPs] at hr
theorem takeRes_rel (r : HRel X mine w g lk) {ok : Nat → Prop} : ∀ {rs : List (Bool × Ty)} {H H' : Heap} {vs : List AV} {us : List Value} {rd : ResD rs}, (∀ q z, look H q = some z → lk q = some z) → takeRes rs H vs = some (rd, H') → All2 (AVRel w ok g lk) vs us →
    ∃ C, Taken H H' C ∧ ResL w rs rd us (fps g C)
  | [], H, H', [], us, rd, hH, h, hv => by
    simp only [takeRes, Option.some.injEq, Prod.mk.injEq] at h
    obtain ⟨_, rfl⟩ := h
    cases us with
    | nil => exact ⟨[], Taken.none _, rfl, rfl⟩
    | cons _ _ => exact hv.elim
  | (agg, t) :: rs, H, H', v :: vs, [], rd, hH, h, hv => hv.elim
  | (agg, t) :: rs, H, H', v :: vs, u :: us, rd, hH, h, hv => by
    simp only [takeRes, Option.bind_eq_some_iff] at h
    obtain ⟨cs, hcs, ⟨x, rest, H1⟩, hx, h⟩ := h
    obtain ⟨ds, hds, hcd⟩ : ∃ ds, ArgVal agg u ds ∧ All2 (CVRel w ok g lk) cs ds := argCells_val (v := v) (by unfold argCells; exact hcs) hv.1
    obtain ⟨v1, v2, C1, rfl, t1, o1, h2⟩ := takeN_rel r hH hx hcd
    simp only at h
    split at h
    · simp only [Option.bind_eq_some_iff, Option.some.injEq, Prod.mk.injEq] at h
      obtain ⟨⟨y, H2⟩, hy, rfl, rfl⟩ := h
      have : v2 = [] := by cases v2 with | nil => rfl | cons _ _ => exact h2.elim
      subst this
      rw [List.append_nil] at hds
      obtain ⟨C2, t2, o2⟩ := takeRes_rel r (fun q z hq => by
        rw [t1.look] at hq
        split at hq
        · cases hq
        · exact hH q z hq) hy hv.2
      exact ⟨C1 ++ C2, t1.trans t2, u, us, v1, fps g C1, fps g C2, rfl, by simp [fps], hds, o1, o2⟩
    · cases h
  | [], _, _, _ :: _, _, _, _, h, _ => by simp [takeRes] at h
  | _ :: _, _, _, [], _, _, _, h, _ => by simp [takeRes] at h
/-- THE CONTRACT OF A FUNCTION THAT READS -/
theorem evF_sound (hT : TabOk X) (T : Tab) (d : Nat) (f : FuncId) (ps : List Par) (rs : List (Bool × Ty)) (hr : readsPs ps = true) : Sound X.P X.G f ⟨ps, rs, fun td vd => evF X T d f ps rs td vd⟩ := by
  intro w vs td vd M md rd harg hM hG he
  let mine : Nat → Prop := fun b => w.heap.size ≤ b
  let g0 : Gh := ⟨fun _ => undef, fun _ => [], fun _ => False, fun _ => undef⟩
  obtain ⟨hMe, hH, hav, hmu⟩ := argAVs_reads (g := g0) (lk := look []) (ok := okB w g0 (look [])) (fun b hb => ⟨hb.1, fun o x hx => by simp [look] at hx⟩) [] hr harg
  subst hMe
  simp only [evF] at he
  split at he
  · rename_i fn hf
    split at he
    · rename_i c hb
      simp only [cond_none, Bool.and_eq_true, Nat.ble_eq] at he
      obtain ⟨⟨hok, hle⟩, he⟩ := he
      rw [hH, hmu] at he
      have hlen : vs.length ≤ fn.ntmps := by
        have key : ∀ {ps : List Par} {vs : List Value} {td : TakD ps} {vd : ValD ps} {M : List Nat}, readsPs ps = true → ArgRel w (fun b => b < w.heap.size ∧ b ∉ ([] : List Nat)) ps vs td vd M → vs.length = ps.length := by
          intro ps
          induction ps with
          | nil => intro vs td vd M _ h; rw [h.1]; rfl
          | cons p ps ih =>
            intro vs td vd M hr h
            obtain ⟨md, agg, t⟩ := p
            cases md with
            | val => obtain ⟨v, vs', cs, rfl, _, _, h⟩ := h; simp [ih (by simpa [readsPs] using hr) h]
            | own => simp [readsPs] at hr
            | mutp tid => simp [readsPs] at hr
        rw [key hr harg]
        exact hle
      have hA : HoldsA X mine w [] [] fn.ntmps ⟨envOf 0 (argAVs ps td vd []).1, [], [], []⟩ { tmps := vs.toArray ++ Array.replicate (fn.ntmps - vs.toArray.size) undef, defers := [] } w g0 := by
        refine { hr := ⟨fun o x hx => by simp [look] at hx, fun o x hx => by simp [look] at hx, fun o o' x x' _ hx => by simp [look] at hx, fun o ho => ho.elim⟩, mineS := fun b hb => hb, dlt := fun p hp => hp.elim, outs := trivial, muts := trivial, kept := Mine.refl w, glob := fun u hu => X.G.keep w u ⟨hu.os, hu.tape, hu.output, hu.size, fun k hk _ => hu.block k hk (by simp only [mine]; omega)⟩ hG, env := fun t => args_env hav _ t, size := ?_, defers := rfl }
        simp; omega
      refine calls_of_wp hf hb (wp_mono (evC_sound hT (evI_sound hT T d) (T.lv f) (T.kp f) c _ _ w _ he hok ⟨g0, hA⟩) fun e a w' q => ?_)
      have done : ∀ s, finish X fn ps rs s = some (md, rd) → Holds X mine w [] [] fn.ntmps s a w' → a.defers = [] ∧ ∃ v, (results fn a.tmps).run X.P w' = .ok v w' ∧ ∃ rvs S T, Ending.returned v = .returned (retV rvs) ∧ Kept [] w w' ∧ ResL w' rs rd rvs S ∧ MutRel w' ps vs md T ∧ (S ++ T).Nodup ∧ ∀ b ∈ S ++ T, b ∈ ([] : List Nat) ∨ w.heap.size ≤ b := by
        intro s hs h
        obtain ⟨g', h⟩ := h
        simp only [finish, Option.bind_eq_some_iff] at hs
        obtain ⟨us, hus, ⟨rd', H1⟩, htk, ⟨md', H2⟩, hmd, hs⟩ := hs
        simp only [Option.some.injEq, Prod.mk.injEq] at hs
        obtain ⟨rfl, rfl⟩ := hs
        obtain ⟨us', h1, _, h2⟩ := results_run h hus
        obtain ⟨C, tk, hres⟩ := takeRes_rel h.hr (fun _ _ hq => hq) htk h1
        refine ⟨h.defers, _, h2, _, fps g' C, [], rfl, ⟨h.kept.os, h.kept.tape, h.kept.output, h.kept.size, fun k hk _ => h.kept.block k hk (by simp only [mine]; omega)⟩, hres, mutRel_of hr, ?_, fun b hb => ?_⟩
        · rw [List.append_nil]
          exact fps_nodup h.hr tk.nodup tk.arr
        · rw [List.append_nil] at hb
          obtain ⟨q, hq, hb⟩ := List.mem_flatMap.1 hb
          obtain ⟨_, _, _, hl⟩ := tk.arr q hq
          exact .inr (h.hr.own q _ hl b hb).2
      cases e with
      | normal => obtain ⟨s, hs, h⟩ := q; exact done s hs h
      | ret => obtain ⟨s, hs, h⟩ := q; exact done s hs h
      | exit i => obtain ⟨s, hs, h⟩ := q; cases hs
      | goto l => exact q.elim
      | panic c => exact q.elim
      | outgrown => exact q.elim
    · cases he
  · cases he
end Go.Proofs.YtglbaihiibdemaaGreatDoor.Am
