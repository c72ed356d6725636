/- What is proved here: a call by contract; and all operations that change nothing that is there, together. -/
import Derived.Test.YtglbaihiibdemaaGreatDoorAm11
namespace Go.Proofs.YtglbaihiibdemaaGreatDoor.Am
open Go
set_option autoImplicit false
variable {X : Ctx} {mine : Nat → Prop} {w w' : World} {g g' : Gh} {lk lk' : Nat → Option AObj} {E : Env} {a : Act} {n : Nat} {o : Oper}

theorem call_run {P : Program} {f : FuncId} (hE : Enters P f) {c : Call} {x : Operand} (ho : o.op = .call c) (hc : c.callee = .value x) (hx : a.eval x = .func (.func f) #[] #[]) : (execOp a.eval o).run P w = .ok (.enter f (c.args.map a.eval)) w := by
  have := hE (c.args.map a.eval) w
  simp [execOp, ho, resolve, hc, hx, Deferred.ofValue, invoke, this]
theorem args_rel (h : Good X mine w g lk E a) : ∀ l : List Operand, All2 (AVRel w (okB w g lk) g lk) (l.map E.ev) (l.map a.eval)
  | [] => trivial
  | x :: l => ⟨h.ev x, args_rel h l⟩
theorem mutRel_reads {w : World} : ∀ {ps : List Par} {vs : List Value} {md : MutD ps} {T : List Nat}, (ps.all fun p => match p.mode with | .val => true | _ => false) = true → MutRel w ps vs md T → T = []
  | [], _, _, _, _, h => h
  | ⟨.val, _, _⟩ :: r, vs, md, T, hp, h => mutRel_reads (ps := r) (by simpa using hp) h
  | ⟨.own, _, _⟩ :: _, _, _, _, hp, _ => by simp at hp
  | ⟨.mutp _, _, _⟩ :: _, _, _, _, hp, _ => by simp at hp
theorem fn_val {f : FuncId} {v : Value} {ok : Nat → Prop} (h : AVRel w ok g lk (.fn f []) v) : v = .func (.func f) #[] #[] := by
  obtain ⟨vs, rfl, h⟩ := h
  have : vs = #[] := by
    have := h.len
    apply Array.ext'
    cases hv : vs.toList with
    | nil => rfl
    | cons x l => rw [hv] at this; simp at this
  rw [this]
/-- the new objects of a call, put in -/
theorem grows_thawed (h : Good X mine w g lk E a) {N : List AObj} (hfree : ∀ i, i < N.length → lk (n + i) = none ∧ ¬ g.dead (n + i)) {S : List Nat} {L : List (Value × List Nat)} {R : (Nat → Prop) → Gh → (Nat → Option AObj) → Prop} (hk : Kept [] w w') (t : Thawed w' N n S L R) (hnd : S.Nodup) (hS : ∀ b ∈ S, w.heap.size ≤ b ∧ b < w'.heap.size) :
    Grows X mine w w' g (g.add n L) lk (lkAdd lk n N) ∧ R (okB w' (g.add n L) (lkAdd lk n N)) (g.add n L) (lkAdd lk n N) := by
  constructor
  · refine Grows.add hk t.len (fun i hi => hfree i hi) h.hr.dead h.live (fun p hp b hb => ?_) (disj_of_nodup (by rw [t.fps]; exact hnd)) fun i x p hx hp hval hfp m => ?_
    · have := hS b (mem_flatten_snd t.fps hp b hb)
      exact ⟨this.1, this.2, h.mine b this.1⟩
    · obtain ⟨tid, e, xs, rfl, ho⟩ := t.obj i x p hx hp
      simp only [ObjRel, hval, hfp]
      exact ho
  · refine t.rel _ _ _ fun i x p hx hp => ?_
    have hi := (List.getElem?_eq_some_iff.1 hx).1
    have hn : lk (n + i) = none := (hfree i hi).1
    have h1 : lkAdd lk n N (n + i) = some x := by
      unfold lkAdd
      simp [hn, hx]
    exact ⟨h1, (Gh.add_val_new (o := n + i) (by simp [h1, hn]) (by simpa using hp)).1⟩
theorem rvs_lt {w : World} : ∀ {rs : List (Bool × Ty)} {rd : ResD rs} {vs : List Value} {S : List Nat}, ResL w rs rd vs S → ∀ b ∈ S, b < w.heap.size
  | [], _, _, _, h => by obtain ⟨_, rfl⟩ := h; simp
  | (agg, t) :: r, rd, vs, S, h => by
    obtain ⟨v, vs', cs, S1, S2, rfl, rfl, hv, h1, h2⟩ := h
    intro b hb
    rcases List.mem_append.1 hb with hb | hb
    · exact h1.lt b hb
    · exact rvs_lt h2 b hb
theorem callV_sound (hT : TabOk X) (h : Good X mine w g lk E a) {c : Call} {x : Operand} {f : FuncId} (ho : o.op = .call c) (hc : c.callee = .value x) (hx : E.ev x = .fn f []) {out : Out} (hl : callV X lk n f (c.args.toList.map E.ev) = some out)
    {v : AV} {N : List AObj} (hg : out.gives v N) (hfree : ∀ i, i < N.length → lk (n + i) = none ∧ ¬ g.dead (n + i)) : DoneW X mine w g lk a n o v N := by
  unfold callV at hl
  split at hl
  · rename_i s hs
    rw [cond_none] at hl
    obtain ⟨hrd, hl⟩ := hl
    simp only [Option.bind_eq_some_iff] at hl
    obtain ⟨t, ht, vd, hvd, he⟩ := hl
    obtain rfl : _ = out := by simpa using he
    obtain ⟨⟨md, rd⟩, hf, hvN⟩ := hg
    obtain ⟨hSound, hEnter⟩ := hT.sig f s hs
    have hargs := snapArgs_rel (td := t.1) h.reads h.hr.dead hrd hvd (args_rel h c.args.toList)
    have hrun := call_run (w := w) hEnter ho hc (fn_val (hx ▸ h.ev x))
    intro K Q hK
    unfold Oper.wp
    rw [hrun, Oper.upon_enter]
    have hcall := hSound w (c.args.toList.map a.eval) t.1 vd [] md rd (by simpa using hargs) (by simp) (h.glob w (Mine.refl w)) hf
    rw [show (c.args.toList.map a.eval).toArray = c.args.map a.eval from by apply Array.ext'; simp] at hcall
    refine hcall.mono fun e w1 he => ?_
    obtain ⟨rvs, S, T, rfl, hk, hres, hmut, hnd, hnew⟩ := he
    obtain rfl := mutRel_reads hrd hmut
    rw [List.append_nil] at hnd hnew
    obtain ⟨L, th⟩ := thawRes_rel n hres
    simp only [Prod.mk.injEq] at hvN
    obtain ⟨rfl, rfl⟩ := hvN
    obtain ⟨hgr, hrel⟩ := grows_thawed h hfree hk th hnd (fun b hb => ⟨(hnew b hb).resolve_left (by simp), rvs_lt hres b hb⟩)
    exact hK _ _ _ hgr (resAV_rel hrel)
  · cases hl
end Go.Proofs.YtglbaihiibdemaaGreatDoor.Am
