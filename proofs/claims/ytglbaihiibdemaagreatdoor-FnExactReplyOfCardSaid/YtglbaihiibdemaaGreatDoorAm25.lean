/- What is proved here: the evaluator of code, whole. -/
import Derived.Test.YtglbaihiibdemaaGreatDoorAm24
namespace Go.Proofs.YtglbaihiibdemaaGreatDoor.Am
open Go
set_option autoImplicit false
variable {X : Ctx} {mine : Nat → Prop} {w w' w'' : World} {g g' g'' : Gh} {E E' : Env} {a : Act} {n : Nat} {o : Oper}
variable {w0 : World} {outs : List (Array Value)} {mvs : List Value} {m : Nat} {s : Cfg} {R : Type} {r : R}

theorem fixO_some {F : (Cfg → Option R) → Cfg → Option R} (h : fixO F s = some r) : ∃ k, iter F k s = some r := by
  unfold fixO at h
  split at h
  · exact ⟨_, h⟩
  · cases h
theorem evC_sound (hT : TabOk X) {I : Inl R} (hI : ISound X I) (lv : Nat → List Nat) (kp : Nat → Option (List Nat)) : ∀ (c : Code) (s : Cfg) (a : Act) (w : World) (K : Ex → Cfg → Option R), evC I X lv kp c s K = some r → codeOk m c = true → Holds X mine w0 outs mvs m s a w → c.wp X.P (Post X mine w0 outs mvs m K r) a w
  | .skip, s, a, w, K, he, _, h => wp_skip ⟨s, he, h⟩
  | .region id ops false, s, a, w, K, he, hok, h => by
    have hd : ∀ o ∈ ops.toList, ∀ u, o.dst = some u → u < m := fun o ho u hu => by
      have h1 : (match o.dst with | some d => Nat.blt d m | none => true) = true := List.all_eq_true.1 hok o ho
      rw [hu] at h1
      exact Nat.le_of_ble_eq_true h1
    exact wp_region_list (evOps_list hT hI (keep := kp id) (k := K .normal) (fun s a w hk h => ⟨s, hk, h⟩) ops.toList s a w he h hd)
  | .region id ops true, s, a, w, K, he, hok, h => by
    have hd : ∀ o ∈ ops.toList, ∀ u, o.dst = some u → u < m := fun o ho u hu => by
      have h1 : (match o.dst with | some d => Nat.blt d m | none => true) = true := List.all_eq_true.1 hok o ho
      rw [hu] at h1
      exact Nat.le_of_ble_eq_true h1
    simp only [evC, cond_none, Bool.and_eq_true] at he
    obtain ⟨⟨hf, hdr⟩, he⟩ := he
    obtain ⟨g, h⟩ := h
    exact wp_region_any hf (region_any hT hI (keep := kp id) (k := K .normal) (fun s a w hk h => ⟨s, hk, h⟩) hdr hd he (holds_drew h))
  | .seq x y, s, a, w, K, he, hok, h => by
    simp only [codeOk, Bool.and_eq_true] at hok
    refine wp_seq (wp_mono (evC_sound hT hI lv kp x s a w _ he hok.1 h) fun e a w q => ?_)
    cases e with
    | normal => obtain ⟨t, ht, h⟩ := q; exact evC_sound hT hI lv kp y t a w K ht hok.2 h
    | exit i => exact q
    | ret => exact q
    | goto l => exact q.elim
    | panic c => exact q.elim
    | outgrown => exact q.elim
  | .cond c x y, s, a, w, K, he, hok, h => by
    simp only [codeOk, Bool.and_eq_true] at hok
    simp only [evC] at he
    split at he
    · rename_i b hb
      obtain ⟨g, h⟩ := h
      have hc : a.eval c = .bool b := by have := h.good.ev c; rw [hb] at this; exact this
      cases b with
      | true => exact wp_cond_true hc (evC_sound hT hI lv kp x s a w K he hok.1 ⟨g, h⟩)
      | false => exact wp_cond_false hc (evC_sound hT hI lv kp y s a w K he hok.2 ⟨g, h⟩)
    · cases he
  | .block id c, s, a, w, K, he, hok, h => by
    refine wp_block (wp_mono (evC_sound hT hI lv kp c s a w _ he hok h) fun e a w q => ?_)
    cases e with
    | normal => exact q
    | exit i =>
      obtain ⟨t, ht, h⟩ := q
      simp only [Exit.inBlock]
      split
      · rename_i hi
        subst hi
        exact ⟨t, by simpa using ht, h⟩
      · rename_i hi
        have : Nat.beq i id = false := by
          cases hb : Nat.beq i id with
          | true => exact absurd (Nat.eq_of_beq_eq_true hb) hi
          | false => rfl
        simp only [this, cond_false] at ht
        exact ⟨t, ht, h⟩
    | ret => exact q
    | goto l => exact q.elim
    | panic c => exact q.elim
    | outgrown => exact q.elim
  | .loop c, s, a, w, K, he, hok, h => by
    obtain ⟨k, hk⟩ := fixO_some he
    refine wp_loop_rounds k ?_
    have key : ∀ (k : Nat) (s : Cfg) (a : Act) (w : World), iter (fun rec u => evC I X lv kp c u fun e t => match e with
        | .normal => rec (canon (lv (firstReg c)) t)
        | .exit i => K (.exit i) t
        | .ret => K .ret t) k s = some r → Holds X mine w0 outs mvs m s a w → Code.rounds X.P c (Post X mine w0 outs mvs m K r) k a w := by
      intro k
      induction k with
      | zero => intro s a w hk; cases hk
      | succ k ih =>
        intro s a w hk h
        rw [rounds_succ]
        refine wp_mono (evC_sound hT hI lv kp c s a w _ hk hok h) fun e a w q => ?_
        cases e with
        | normal => obtain ⟨t, ht, h⟩ := q; exact ih _ a w ht (canon_holds _ h)
        | exit i => exact q
        | ret => exact q
        | goto l => exact q.elim
        | panic c => exact q.elim
        | outgrown => exact q.elim
    exact key k _ a w hk (canon_holds _ h)
  | .exit i, s, a, w, K, he, _, h => wp_exit ⟨s, he, h⟩
  | .ret, s, a, w, K, he, _, h => wp_ret ⟨s, he, h⟩
/-! ### functions in place -/
theorem envOf_get : ∀ (l : List AV) (i t : Nat), (envOf i l).get t = if i ≤ t then (match l[t - i]? with | some v => v | none => .undef) else .undef
  | [], i, t => by simp [envOf, Env.get]
  | v :: l, i, t => by
    simp only [envOf, Env.get]
    cases hb : Nat.beq i t with
    | true =>
      obtain rfl := Nat.eq_of_beq_eq_true hb
      simp
    | false =>
      have hne : i ≠ t := Nat.ne_of_beq_eq_false hb
      rw [cond_false, envOf_get l (i + 1) t]
      by_cases h : i ≤ t
      · have h1 : i + 1 ≤ t := by omega
        rw [if_pos h, if_pos h1, show t - i = (t - (i + 1)) + 1 by omega]
        simp
      · rw [if_neg h, if_neg (by omega)]
theorem args_env {w : World} {ok : Nat → Prop} {g : Gh} {lk : Nat → Option AObj} {l : List AV} {vs : List Value} (h : All2 (AVRel w ok g lk) l vs) (k : Nat) (t : Nat) : AVRel w ok g lk ((envOf 0 l).get t) ((vs.toArray ++ Array.replicate k undef).getD t undef) := by
  rw [envOf_get]
  simp only [Nat.zero_le, if_true, Nat.sub_zero]
  split
  · rename_i v hv
    obtain ⟨u, hu, hr⟩ := h.get t v hv
    have : (vs.toArray ++ Array.replicate k undef).getD t undef = u := by
      have hlt := (List.getElem?_eq_some_iff.1 hu).1
      simp [Array.getElem?_append, hlt, hu]
      rw [List.getElem?_eq_getElem hlt] at hu
      simpa using hu
    rw [this]
    exact hr
  · trivial
def rvSem (a : Act) : ResultVar → Sem Value
  | .tmp t => pure (a.tmps.getD t undef)
  | .cell u t => do loadVar t (← asAddr (a.tmps.getD u undef))
theorem resCell_run (h : HoldsA X mine w0 outs mvs m s a w g) {rv : ResultVar} {v : AV} (hv : resCells X s.env s.heap rv = some v) : ∃ u, AVRel w (okB w g (look s.heap)) g (look s.heap) v u ∧
    (rvSem a rv).run X.P w = .ok u w := by
  cases rv with
  | tmp t =>
    obtain rfl : s.env.get t = v := by simpa [resCells] using hv
    exact ⟨_, h.env t, rfl⟩
  | cell u t =>
    have he := h.env u
    simp only [resCells] at hv
    split at hv
    · rename_i o hE
      split at hv
      · rename_i tid cs sz hl hsz
        simp only [cond_some, Bool.and_eq_true, Nat.beq_eq] at hv
        obtain ⟨⟨hle, hone⟩, rfl⟩ := hv
        rw [hE] at he
        obtain ⟨_, h2⟩ := he
        rcases h2 with h2 | ⟨y, h2, h3⟩
        · rw [h.hr.dead _ h2] at hl
          cases hl
        · rw [h2] at hl
          obtain rfl : y = _ := by simpa using hl
          obtain ⟨b, hgv, hp⟩ := h3 rfl
          obtain ⟨b', cur, hgv', hb, hcs, _⟩ := h.hr.obj _ _ h2
          rw [hgv] at hgv'
          obtain rfl : b = b' := by simpa using hgv'
          have hlen := hcs.len
          obtain ⟨r, h4, h5, h6⟩ := run_load_cells (P := X.P) (w := w) (t := t) (vs := cur.toList) (ad := ⟨b, 0, none⟩) (by rw [hsz, hle, hlen]) (by rw [← hlen, ← hle]; simpa using hone) rfl fun j u hu => by rw [Nat.zero_add, cell_row hb]; exact hu
          refine ⟨r, mkAV_rel hcs h5 h6, ?_⟩
          simp [rvSem, hp, asAddr, h4]
      · cases hv
    · cases hv
theorem resList_rel (h : HoldsA X mine w0 outs mvs m s a w g) : ∀ {l : List ResultVar} {vs : List AV}, l.mapM (resCells X s.env s.heap) = some vs → ∃ us, All2 (AVRel w (okB w g (look s.heap)) g (look s.heap)) vs us ∧ us.length = l.length ∧
    (l.mapM (m := Sem) fun | .tmp t => pure (a.tmps.getD t undef) | .cell u t => do loadVar t (← asAddr (a.tmps.getD u undef))).run X.P w = .ok us w
  | [], vs, hm => by
    obtain rfl : [] = vs := by simpa using hm
    exact ⟨[], trivial, rfl, rfl⟩
  | rv :: l, vs, hm => by
    simp only [List.mapM_cons, Option.bind_eq_bind, Option.bind_eq_some_iff] at hm
    obtain ⟨v, hv, us, hu, he⟩ := hm
    obtain rfl : v :: us = vs := by simpa using he
    obtain ⟨ws, h1, h0, h2⟩ := resList_rel h hu
    obtain ⟨u, h3, h4⟩ := resCell_run h hv
    refine ⟨u :: ws, ⟨h3, h1⟩, by simp [h0], ?_⟩
    have h5 : ((fun (x : ResultVar) => (match x with | .tmp t => pure (a.tmps.getD t undef) | .cell u t => do loadVar t (← asAddr (a.tmps.getD u undef)) : Sem Value)) rv).run X.P w = .ok u w := by
      cases rv with
      | tmp t => exact h4
      | cell u t => exact h4
    rw [List.mapM_cons, Sem.run_bind]
    simp only [h5, Result.andThen_ok, Sem.run_bind, h2, Sem.run_pure]
theorem results_run (h : HoldsA X mine w0 outs mvs m s a w g) {fn : Func} {vs : List AV} (hl : resList X fn s.env s.heap = some vs) : ∃ us, All2 (AVRel w (okB w g (look s.heap)) g (look s.heap)) vs us ∧ us.length = fn.results.toList.length ∧ (results fn a.tmps).run X.P w = .ok (retV us) w := by
  obtain ⟨us, h1, h0, h2⟩ := resList_rel h hl
  refine ⟨us, h1, h0, ?_⟩
  unfold results
  have e : fn.results = fn.results.toList.toArray := by simp
  rw [e, List.mapM_toArray]
  simp only [Sem.run_bind, Sem.run_map, Sem.run_pure]
  have fin : ∀ x : Result (List Value), x = .ok us w → ((x.andThen fun a w' => .ok a.toArray w').andThen fun (a : Array Value) w' => .ok (if h : a.size = 1 then a[0] else .tuple a) w') = .ok (retV us) w := by
    rintro _ rfl
    simp only [Result.andThen_ok]
    congr 1
    match us with
    | [] => rfl
    | [x] => rfl
    | x :: y :: l => simp [retV]
  exact fin _ h2
theorem retAV_run (h : HoldsA X mine w0 outs mvs m s a w g) {fn : Func} {v : AV} (hl : retAV X fn s.env s.heap = some v) : ∃ v', (results fn a.tmps).run X.P w = .ok v' w ∧ AVRel w (okB w g (look s.heap)) g (look s.heap) v v' := by
  unfold retAV at hl
  split at hl
  · rename_i he
    obtain rfl : _ = v := by simpa using hl
    obtain ⟨us, _, h0, h2⟩ := results_run (fn := fn) h (vs := []) (by simp [resList, he])
    rw [he] at h0
    obtain rfl : us = [] := by simpa using h0
    exact ⟨_, h2, #[], rfl, trivial⟩
  · rename_i r he
    obtain ⟨us, h1, h0, h2⟩ := results_run (fn := fn) h (vs := [v]) (by simp [resList, he, hl])
    match us, h1, h2 with
    | [u], h1, h2 => exact ⟨_, h2, h1.1⟩
    | [], h1, _ => exact h1.elim
    | _ :: _ :: _, h1, _ => exact h1.2.elim
  · rename_i _ hne0 hne1
    simp only [Option.bind_eq_some_iff, Option.map_eq_some_iff] at hl
    obtain ⟨vs, hvs, l, hl, rfl⟩ := hl
    obtain ⟨us, h1, h0, h2⟩ := results_run (fn := fn) h (vs := vs) hvs
    have hlen := h1.len
    have key : ∀ {vs : List AV} {us : List Value} {l : List (Bool × List CV)}, (vs.mapM fun v => match v with | AV.c x => some (false, [x]) | AV.mix cs => some (true, cs) | _ => none) = some l → All2 (AVRel w (okB w g (look s.heap)) g (look s.heap)) vs us → All2 (ResR w (okB w g (look s.heap)) g (look s.heap)) l us := by
      intro vs
      induction vs with
      | nil =>
        intro us l hl hv
        obtain rfl : [] = l := by simpa using hl
        cases us with
        | nil => trivial
        | cons _ _ => exact hv.elim
      | cons v vs ih =>
        intro us l hl hv
        cases us with
        | nil => exact hv.elim
        | cons u us =>
          simp only [List.mapM_cons, Option.bind_eq_bind, Option.bind_eq_some_iff] at hl
          obtain ⟨p, hp, l', hl', he⟩ := hl
          obtain rfl : p :: l' = l := by simpa using he
          refine ⟨?_, ih hl' hv.2⟩
          split at hp
          · obtain rfl : _ = p := by simpa using hp
            exact ⟨_, rfl, hv.1⟩
          · obtain rfl : _ = p := by simpa using hp
            exact hv.1
          · cases hp
    refine ⟨_, h2, us.toArray, ?_, by simpa using key hl h1⟩
    match hr : fn.results.toList, us, h0 with
    | [], _, _ => exact absurd hr hne0
    | [x], _, _ => exact absurd hr (hne1 x)
    | x :: y :: l, u :: v :: us, _ => rfl
    | x :: y :: l, [], h0 => simp at h0
    | x :: y :: l, [u], h0 => simp at h0
/-- A CALL IN PLACE -/
theorem evI_sound (hT : TabOk X) (T : Tab) : ∀ d : Nat, ISound X (R := R) (evI X T d)
  | 0 => fun _ _ _ _ _ _ _ _ _ _ _ _ h => by cases h
  | d + 1 => by
    intro mine w0 outs mvs f caps args outer muts H k r he w g vs cvs hG hargs hcaps
    simp only [evI] at he
    split at he
    · rename_i fn hf
      split at he
      · rename_i c hb
        simp only [cond_none, Bool.and_eq_true, Nat.ble_eq] at he
        obtain ⟨⟨hok, hle⟩, he⟩ := he
        have hall : All2 (AVRel w (okB w g (look H)) g (look H)) (args ++ caps.map AV.c) (vs ++ cvs) := by
          refine hargs.append ?_
          have : ∀ {l : List CV} {u : List Value}, All2 (CVRel w (okB w g (look H)) g (look H)) l u → All2 (AVRel w (okB w g (look H)) g (look H)) (l.map AV.c) u := by
            intro l
            induction l with
            | nil =>
              intro u h
              cases u with
              | nil => trivial
              | cons x u => exact h.elim
            | cons c l ih =>
              intro u h
              cases u with
              | nil => exact h.elim
              | cons x u => exact ⟨h.1, ih h.2⟩
          exact this hcaps
        have hlen : (vs ++ cvs).toArray.size = args.length + caps.length := by
          have := hall.len
          simpa using this.symm
        have hA : HoldsA X mine w0 outs mvs fn.ntmps ⟨envOf 0 (args ++ caps.map AV.c), outer, muts, H⟩ { tmps := (vs ++ cvs).toArray ++ Array.replicate (fn.ntmps - (vs ++ cvs).toArray.size) undef, defers := [] } w g :=
          { hG with env := fun t => args_env hall _ t, size := by rw [Array.size_append, hlen]; simp; omega, defers := rfl }
        refine calls_of_wp hf hb (wp_mono (evC_sound hT (evI_sound hT T d) (T.lv f) (T.kp f) c _ _ w _ he hok ⟨g, hA⟩) fun e a w' q => ?_)
        have done : ∀ s, ((retAV X fn s.env s.heap).bind fun v => k v s.outer s.muts s.heap) = some r → Holds X mine w0 outs mvs fn.ntmps s a w' →
            a.defers = [] ∧ ∃ v, (results fn a.tmps).run X.P w' = .ok v w' ∧ ∃ v1 v' outer' muts' H' g', Ending.returned v = .returned v' ∧ k v1 outer' muts' H' = some r ∧ HoldsG X mine w0 outs mvs outer' muts' H' w' g' ∧ AVRel w' (okB w' g' (look H')) g' (look H') v1 v' := by
          intro s hs h
          obtain ⟨g', h⟩ := h
          simp only [Option.bind_eq_some_iff] at hs
          obtain ⟨v, hv, hk⟩ := hs
          obtain ⟨v', h1, h2⟩ := retAV_run h hv
          exact ⟨h.defers, v', h1, v, v', s.outer, s.muts, s.heap, g', rfl, hk, h.toHoldsG, h2⟩
        cases e with
        | normal => obtain ⟨s, hs, h⟩ := q; exact done s hs h
        | ret => obtain ⟨s, hs, h⟩ := q; exact done s hs h
        | exit i => obtain ⟨s, hs, h⟩ := q; cases hs
        | goto l => exact q.elim
        | panic c => exact q.elim
        | outgrown => exact q.elim
      · cases he
    · cases he
end Go.Proofs.YtglbaihiibdemaaGreatDoor.Am
