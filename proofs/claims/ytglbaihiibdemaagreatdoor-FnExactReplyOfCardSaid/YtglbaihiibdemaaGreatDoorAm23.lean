/- What is proved here: operations one behind the other; calls in place; drawn regions. -/
import Derived.Test.YtglbaihiibdemaaGreatDoorAm22
namespace Go.Proofs.YtglbaihiibdemaaGreatDoor.Am
open Go
set_option autoImplicit false
variable {X : Ctx} {mine : Nat → Prop} {w w' w'' : World} {g g' g'' : Gh} {lk lk' lk'' : Nat → Option AObj} {E E' : Env} {a : Act} {n : Nat} {o : Oper}
variable {w0 : World} {outs : List (Array Value)} {mvs : List Value} {m : Nat} {s : Cfg} {R : Type} {r : R}

/-- a function evaluated in place does in the model what the evaluator says -/
def ISound (X : Ctx) (I : Inl R) : Prop := ∀ (mine : Nat → Prop) (w0 : World) (outs : List (Array Value)) (mvs : List Value) (f : FuncId) (caps : List CV) (args : List AV) (outer : List Env) (muts : List CV) (H : Heap) (k : AV → List Env → List CV → Heap → Option R) (r : R),
  I f caps args outer muts H k = some r → ∀ (w : World) (g : Gh) (vs cvs : List Value), HoldsG X mine w0 outs mvs outer muts H w g → All2 (AVRel w (okB w g (look H)) g (look H)) args vs → All2 (CVRel w (okB w g (look H)) g (look H)) caps cvs →
  Calls X.P f (vs ++ cvs).toArray w fun e w' => ∃ v v' outer' muts' H' g', e = .returned v' ∧ k v outer' muts' H' = some r ∧ HoldsG X mine w0 outs mvs outer' muts' H' w' g' ∧ AVRel w' (okB w' g' (look H')) g' (look H') v v'
theorem call_run' {P : Program} {f : FuncId} (hE : Enters P f) {c : Call} {x : Operand} (ho : o.op = .call c) (hc : c.callee = .value x) {cvs : Array Value} (hx : a.eval x = .func (.func f) #[] cvs) : (execOp a.eval o).run P w = .ok (.enter f (c.args.map a.eval ++ cvs)) w := by
  have := hE (c.args.map a.eval ++ cvs) w
  simp [execOp, ho, resolve, hc, hx, Deferred.ofValue, invoke, this]
theorem keep_get (l : List Nat) (E : Env) (t : Nat) : Env.get (l.map fun t => (t, E.get t)) t = E.get t ∨ Env.get (l.map fun t => (t, E.get t)) t = .undef := by
  induction l with
  | nil => exact .inr rfl
  | cons u l ih =>
    simp only [List.map_cons, Env.get]
    cases hb : Nat.beq u t with
    | true =>
      obtain rfl := Nat.eq_of_beq_eq_true hb
      exact .inl rfl
    | false => exact ih
theorem isInl_some {f : FuncId} {caps : List CV} {args : List AV} (h : isInl X E o = some (f, caps, args)) : ∃ c x, o.op = .call c ∧ c.callee = .value x ∧ E.ev x = .fn f caps ∧ X.S f = .inl ∧ args = c.args.toList.map E.ev := by
  unfold isInl at h
  split at h
  · rename_i c ho
    split at h
    · rename_i x hc
      split at h
      · rename_i f' caps' hx
        split at h
        · rename_i hs
          simp only [Option.some.injEq, Prod.mk.injEq] at h
          obtain ⟨rfl, rfl, rfl⟩ := h
          exact ⟨c, x, ho, hc, hx, hs, rfl⟩
        · cases h
      · cases h
    · cases h
  · cases h
theorem evOp_wp (hT : TabOk X) {I : Inl R} (hI : ISound X I) {keep : Option (List Nat)} {k : AV → Cfg → Option R} (h : Holds X mine w0 outs mvs m s a w) (he : evOp I X keep o s k = some r) (hdst : ∀ u, o.dst = some u → u < m) {K : Act → World → Prop} {Q : Exit → Act → World → Prop}
    (hK : ∀ v t a' w', k v t = some r → Holds X mine w0 outs mvs m ⟨t.env.put o.dst v, t.outer, t.muts, t.heap⟩ a' w' → K a' w') : o.wp X.P a w K Q := by
  obtain ⟨g, h⟩ := h
  unfold evOp at he
  split at he
  · rename_i out hl
    obtain ⟨v, H', hg, he⟩ := OutM.run_some he
    exact opM_holds hT h hl hg hdst fun a' w' h' => hK v _ a' w' he h'
  · split at he
    · rename_i out hl
      obtain ⟨v, N, hg, he⟩ := Out.run_some he
      exact opN_holds hT h hl hg hdst fun a' w' h' => hK v _ a' w' he h'
    · split at he
      · rename_i f caps args hi
        obtain ⟨c, x, ho, hc, hx, hs, rfl⟩ := isInl_some hi
        have hfv := h.good.ev x
        rw [hx] at hfv
        obtain ⟨cvs, hxv, hcv⟩ := hfv
        have hrun := call_run' (w := w) (hT.inl f hs) ho hc hxv
        unfold Oper.wp
        rw [hrun, Oper.upon_enter]
        have hA : HoldsG X mine w0 (a.tmps :: outs) mvs ((match (generalizing := false) keep with | some l => l.map fun t => (t, s.env.get t) | none => s.env) :: s.outer) s.muts s.heap w g := by
          refine { h.toHoldsG with outs := ⟨fun t => ?_, h.outs⟩ }
          cases keep with
          | none => exact h.env t
          | some l =>
            rcases keep_get l s.env t with h1 | h1
            · simp only [h1]; exact h.env t
            · simp only [h1]; trivial
        have hcall := hI mine w0 (a.tmps :: outs) mvs f caps _ _ _ _ _ _ he w g (c.args.toList.map a.eval) cvs.toList hA (args_rel h.good _) hcv
        rw [show (c.args.toList.map a.eval ++ cvs.toList).toArray = c.args.map a.eval ++ cvs from by apply Array.ext'; simp] at hcall
        refine hcall.mono fun e w1 he1 => ?_
        obtain ⟨v, v', outer', muts', H', g', rfl, hk, hG, hv⟩ := he1
        match outer', hk, hG with
        | [], hk, _ => cases hk
        | e1 :: rest, hk, hG =>
          refine hK v ⟨e1, rest, muts', H'⟩ _ w1 hk ⟨g', { hG with outs := hG.outs.2, env := fun t => ?_, size := by rw [put_size]; exact h.size, defers := ?_ }⟩
          · rw [get_put, put_get a o.dst v' (fun u hu => by rw [h.size]; exact hdst u hu)]
            split
            · exact hv
            · exact hG.outs.1 t
          · rw [← h.defers]
            cases o.dst <;> rfl
      · cases he
/-- what an operation's guard says -/
theorem guard_cases {ops : Array Oper} {go skip : Cfg → Option R} (he : (match o.guard with
    | none => go s
    | some (j, want) => match dstOf ops.toList j with
      | some d => match s.env.get d with
        | .c (.bool x) => cond x (cond want (go ⟨(d, .c (.bool true)) :: s.env, s.outer, s.muts, s.heap⟩) (skip ⟨(d, .c (.bool true)) :: s.env, s.outer, s.muts, s.heap⟩))
            (cond want (skip ⟨(d, .c (.bool false)) :: s.env, s.outer, s.muts, s.heap⟩) (go ⟨(d, .c (.bool false)) :: s.env, s.outer, s.muts, s.heap⟩))
        | .skip => skip s
        | _ => none
      | none => none) = some r) :
    ∃ E0, (∀ t, Env.get E0 t = s.env.get t) ∧ ((Wants ops E0 o ∧ go ⟨E0, s.outer, s.muts, s.heap⟩ = some r) ∨ (Skips ops E0 o ∧ skip ⟨E0, s.outer, s.muts, s.heap⟩ = some r)) := by
  split at he
  · rename_i hg
    exact ⟨s.env, fun _ => rfl, .inl ⟨by simp [Wants, hg], he⟩⟩
  · rename_i j want hg
    split at he
    · rename_i d hd
      have hd : (ops[j]?).bind (·.dst) = some d := by simpa [dstOf] using hd
      split at he
      · rename_i x hx
        have same : ∀ b, x = b → ∀ t, Env.get ((d, AV.c (.bool b)) :: s.env) t = s.env.get t := by
          rintro b rfl t
          simp only [Env.get]
          cases hb : Nat.beq d t with
          | true => rw [← Nat.eq_of_beq_eq_true hb, hx]; rfl
          | false => rfl
        have at_ : ∀ b, Env.get ((d, AV.c (.bool b)) :: s.env) d = .c (.bool b) := fun b => by simp [Env.get]
        cases x <;> cases want <;> simp only [cond_true, cond_false] at he
        · exact ⟨_, same false rfl, .inl ⟨by simp only [Wants, hg]; exact ⟨d, hd, at_ false⟩, he⟩⟩
        · exact ⟨_, same false rfl, .inr ⟨⟨j, true, d, hg, hd, .inl (at_ false)⟩, he⟩⟩
        · exact ⟨_, same true rfl, .inr ⟨⟨j, false, d, hg, hd, .inl (at_ true)⟩, he⟩⟩
        · exact ⟨_, same true rfl, .inl ⟨by simp only [Wants, hg]; exact ⟨d, hd, at_ true⟩, he⟩⟩
      · rename_i hx
        exact ⟨s.env, fun _ => rfl, .inr ⟨⟨j, want, d, hg, hd, .inr hx⟩, he⟩⟩
      · cases he
    · cases he
theorem skip_holds (h : HoldsA X mine w0 outs mvs m s a w g) (hdst : ∀ u, o.dst = some u → u < m) : Holds X mine w0 outs mvs m ⟨s.env.put o.dst .skip, s.outer, s.muts, s.heap⟩ (a.put o.dst undef) w :=
  ⟨g, h.go ((Grows.refl X mine w g _ h.hr.dead (look_live _)).to h.hr) h.dlt (show AVRel w _ g _ .skip undef from rfl) hdst fun _ => rfl⟩
theorem evOps_list (hT : TabOk X) {I : Inl R} (hI : ISound X I) {keep : Option (List Nat)} {k : Cfg → Option R} {ops : Array Oper} {Q : Exit → Act → World → Prop} (hK : ∀ s a w, k s = some r → Holds X mine w0 outs mvs m s a w → Q .normal a w) :
    ∀ (l : List Oper) (s : Cfg) (a : Act) (w : World), evOps I X keep ops.toList 0 l s k = some r → Holds X mine w0 outs mvs m s a w → (∀ o ∈ l, ∀ u, o.dst = some u → u < m) → wpList X.P ops Q l a w
  | [], s, a, w, he, h, _ => hK s a w he h
  | o :: l, s, a, w, he, h, hd => by
    have hdst := hd o List.mem_cons_self
    have ih := evOps_list hT hI (keep := keep) (k := k) (ops := ops) (Q := Q) hK l
    refine wpList_step fun K hK' => ?_
    simp only [evOps] at he
    obtain ⟨E0, hE0, hc⟩ := guard_cases (ops := ops) (o := o) (s := s) (go := fun s' => evOp I X keep o s' fun v t => evOps I X keep ops.toList 0 l ⟨t.env.put o.dst v, t.outer, t.muts, t.heap⟩ k) (skip := fun s' => evOps I X keep ops.toList (0 - 1) l ⟨s'.env.put o.dst .skip, s'.outer, s'.muts, s'.heap⟩ k) he
    obtain ⟨g, h⟩ := h
    have h0 : HoldsA X mine w0 outs mvs m ⟨E0, s.outer, s.muts, s.heap⟩ a w g := h.envEq hE0
    rcases hc with ⟨hw, he⟩ | ⟨hw, he⟩
    · rw [wants_wanted h0.good hw, if_pos rfl]
      exact evOp_wp hT hI ⟨g, h0⟩ he hdst fun v t a' w' hk h' => hK' a' w' (ih _ a' w' hk h' fun o ho => hd o (List.mem_cons_of_mem _ ho))
    · rw [skips_wanted h0.good hw, if_neg (by simp)]
      exact hK' _ _ (ih _ _ _ he (skip_holds h0 hdst) fun o ho => hd o (List.mem_cons_of_mem _ ho))

/-! ### the head of a drawn region, as the evaluator takes it -/
def HRun (X : Ctx) (ops : Array Oper) : List Oper → Env → Heap → List (AV × List AObj) → Env → Prop
  | [], E, _, [], E' => ∀ t, E'.get t = E.get t
  | o :: l, E, H, (v, N) :: tr, E' => ∃ E0 E1, (∀ t, Env.get E0 t = E.get t) ∧ (∀ t, Env.get E1 t = (E0.put o.dst v).get t) ∧ StepOk X ops E0 H.length (look H) o v N ∧ HRun X ops l E1 (H ++ N) tr E'
  | _, _, _, _, _ => False
theorem evOps_head {I : Inl R} {keep : Option (List Nat)} {k : Cfg → Option R} {ops : Array Oper} : ∀ (l : List Oper) (h : Nat) (s : Cfg), evOps I X keep ops.toList h l s k = some r → h ≤ l.length →
    ∃ tr E', HRun X ops (l.take h) s.env s.heap tr E' ∧ evOps I X keep ops.toList 0 (l.drop h) ⟨E', s.outer, s.muts, s.heap ++ tr.flatMap (·.2)⟩ k = some r
  | l, 0, s, he, _ => ⟨[], s.env, by simp [HRun], by simpa using he⟩
  | [], h + 1, s, _, hl => by simp at hl
  | o :: l, h + 1, s, he, hl => by
    simp only [evOps] at he
    obtain ⟨E0, hE0, hc⟩ := guard_cases (ops := ops) (o := o) (s := s) (go := fun s' => evOpN X o s' fun v t => evOps I X keep ops.toList h l ⟨t.env.put o.dst v, t.outer, t.muts, t.heap⟩ k) (skip := fun s' => evOps I X keep ops.toList (h + 1 - 1) l ⟨s'.env.put o.dst .skip, s'.outer, s'.muts, s'.heap⟩ k) he
    have hl' : h ≤ l.length := by simpa using hl
    rcases hc with ⟨hw, he⟩ | ⟨hw, he⟩
    · unfold evOpN at he
      split at he
      · rename_i out hout
        obtain ⟨v, N, hg, he⟩ := Out.run_some he
        obtain ⟨tr, E', h1, h2⟩ := evOps_head l h _ he hl'
        refine ⟨(v, N) :: tr, E', ⟨E0, _, hE0, fun _ => rfl, .inl ⟨hw, out, hout, hg⟩, h1⟩, ?_⟩
        simpa using h2
      · cases he
    · obtain ⟨tr, E', h1, h2⟩ := evOps_head l h _ (by simpa using he) hl'
      refine ⟨(.skip, []) :: tr, E', ⟨E0, _, hE0, fun _ => rfl, .inr ⟨hw, rfl, rfl⟩, by simpa using h1⟩, ?_⟩
      simpa using h2
def nsOf (n : Nat) : List (AV × List AObj) → Nat → Nat
  | [], _ => n
  | _, 0 => n
  | p :: tr, j + 1 => nsOf (n + p.2.length) tr j
theorem nsOf_zero (n : Nat) (tr : List (AV × List AObj)) : nsOf n tr 0 = n := by cases tr <;> rfl
theorem nsOf_succ : ∀ (tr : List (AV × List AObj)) (n j : Nat) (p : AV × List AObj), tr[j]? = some p → nsOf n tr (j + 1) = nsOf n tr j + p.2.length
  | [], _, _, _, h => by simp at h
  | q :: tr, n, 0, p, h => by
    obtain rfl : q = p := by simpa using h
    simp [nsOf, nsOf_zero]
  | q :: tr, n, j + 1, p, h => by
    simp only [nsOf]
    exact nsOf_succ tr _ j p (by simpa using h)
def trV (tr : List (AV × List AObj)) (j : Nat) : AV := match tr[j]? with | some p => p.1 | none => .undef
def trN (tr : List (AV × List AObj)) (j : Nat) : List AObj := match tr[j]? with | some p => p.2 | none => []
theorem hrun_len {ops : Array Oper} : ∀ {l : List Oper} {E : Env} {H : Heap} {tr : List (AV × List AObj)} {E' : Env}, HRun X ops l E H tr E' → tr.length = l.length
  | [], _, _, [], _, _ => rfl
  | _ :: _, _, _, (_, _) :: _, _, h => by obtain ⟨_, _, _, _, _, h⟩ := h; simp [hrun_len h]
  | [], _, _, _ :: _, _, h => h.elim
  | _ :: _, _, _, [], _, h => h.elim
/-- where the evaluator stands before operation j -/
theorem hrun_at {ops : Array Oper} : ∀ {l : List Oper} {E : Env} {H : Heap} {tr : List (AV × List AObj)} {E' : Env}, HRun X ops l E H tr E' → (∀ (i j t : Nat), i < l.length → j < l.length → (l[i]?).bind (·.dst) = some t → (l[j]?).bind (·.dst) = some t → i = j) →
    (∀ (j : Nat) (o : Oper), l[j]? = some o → ∃ (Ej : Env) (lkj : Nat → Option AObj), (∀ (i t : Nat), i < j → (l[i]?).bind (·.dst) = some t → Ej.get t = trV tr i) ∧ (∀ t : Nat, (∀ i : Nat, i < j → (l[i]?).bind (·.dst) ≠ some t) → Ej.get t = E.get t) ∧
      (∀ p x, lkj p = some x → look H p = some x ∨ ∃ i, i < j ∧ nsOf H.length tr i ≤ p ∧ (trN tr i)[p - nsOf H.length tr i]? = some x) ∧ StepOk X ops Ej (nsOf H.length tr j) lkj o (trV tr j) (trN tr j)) ∧
    (∀ (i t : Nat), (l[i]?).bind (·.dst) = some t → E'.get t = trV tr i) ∧ (∀ t : Nat, (∀ i : Nat, (l[i]?).bind (·.dst) ≠ some t) → E'.get t = E.get t)
  | [], E, H, [], E', h, _ => ⟨fun j o ho => by simp at ho, fun i t ht => by simp at ht, fun t _ => h t⟩
  | o :: l, E, H, (v, N) :: tr, E', h, hd => by
    obtain ⟨E0, E1, hE0, hE1, hs, h⟩ := h
    obtain ⟨i1, i2, i3⟩ := hrun_at h fun i j t hi hj h1 h2 => by
      have := hd (i + 1) (j + 1) t (by simpa using hi) (by simpa using hj) (by simpa using h1) (by simpa using h2)
      omega
    have e1 : ∀ t, o.dst = some t → E1.get t = v := fun t ht => by rw [hE1, get_put, if_pos ht]
    have e0 : ∀ t, o.dst ≠ some t → E1.get t = E.get t := fun t ht => by rw [hE1, get_put, if_neg ht, hE0]
    have hno : ∀ (t i : Nat), o.dst = some t → (l[i]?).bind (·.dst) ≠ some t := fun t i h1 h2 => by
      have hi : i < l.length := by
        rcases Nat.lt_or_ge i l.length with h3 | h3
        · exact h3
        · rw [List.getElem?_eq_none h3] at h2; cases h2
      have := hd 0 (i + 1) t (by simp) (by simpa using hi) (by simpa using h1) (by simpa using h2)
      omega
    refine ⟨fun j o' ho' => ?_, fun i t ht => ?_, fun t ht => ?_⟩
    · cases j with
      | zero =>
        obtain rfl : o = o' := by simpa using ho'
        refine ⟨E0, look H, fun i t hi => absurd hi (by omega), fun t _ => hE0 t, fun p x hx => .inl hx, ?_⟩
        simpa [nsOf, trV, trN] using hs
      | succ j =>
        obtain ⟨Ej, lkj, k1, k2, k3, k4⟩ := i1 j o' (by simpa using ho')
        refine ⟨Ej, lkj, fun i t hi ht => ?_, fun t ht => ?_, fun p x hx => ?_, ?_⟩
        · cases i with
          | zero =>
            have ht : o.dst = some t := by simpa using ht
            rw [k2 t fun i _ => hno t i ht, e1 t ht]
            rfl
          | succ i =>
            have := k1 i t (by omega) (by simpa using ht)
            rw [this]
            simp [trV]
        · rw [k2 t fun i hi => by simpa using ht (i + 1) (by omega), e0 t (by simpa using ht 0 (by omega))]
        · rcases k3 p x hx with h1 | ⟨i, hi, h1, h2⟩
          · by_cases hp : p < H.length
            · refine .inl ?_
              obtain ⟨_, hne, h3⟩ := look_lt h1
              rw [List.getElem?_append_left hp] at h3
              unfold look at h1 ⊢
              rw [List.getElem?_append_left hp] at h1
              exact h1
            · refine .inr ⟨0, by omega, by simp [nsOf]; omega, ?_⟩
              have h3 := (look_lt h1).2.2
              rw [List.getElem?_append_right (by omega)] at h3
              simpa [trN, nsOf] using h3
          · refine .inr ⟨i + 1, by omega, ?_, ?_⟩
            · simpa [nsOf] using h1
            · simpa [nsOf, trN] using h2
        · simpa [nsOf, trV, trN] using k4
    · cases i with
      | zero =>
        have ht : o.dst = some t := by simpa using ht
        rw [i3 t fun i => hno t i ht, e1 t ht]
        rfl
      | succ i =>
        rw [i2 i t (by simpa using ht)]
        simp [trV]
    · rw [i3 t fun i => by simpa using ht (i + 1), e0 t (by simpa using ht 0)]
  | [], _, _, _ :: _, _, h, _ => h.elim
  | _ :: _, _, _, [], _, h, _ => h.elim
end Go.Proofs.YtglbaihiibdemaaGreatDoor.Am
