/- What is proved here: the evaluator takes one way, and a loop is its first round and the rest. -/
import Derived.Test.YtglbaihiibdemaaGreatDoorAm3
namespace Go.Proofs.YtglbaihiibdemaaGreatDoor.Am
open Go
set_option autoImplicit false
variable {X : Ctx} {R : Type} {r : R}

/-- one way: the result is the continuation's at one place -/
def One1 {α : Type} (F : (α → Option R) → Option R) : Prop := ∀ k r, F k = some r → ∃ x, k x = some r ∧ ∀ k' r', k' x = some r' → F k' = some r'
def One2 {α β : Type} (F : (α → β → Option R) → Option R) : Prop := ∀ k r, F k = some r → ∃ x y, k x y = some r ∧ ∀ k' r', k' x y = some r' → F k' = some r'
def OneI (I : Inl R) : Prop := ∀ (f : FuncId) (caps : List CV) (args : List AV) (outer : List Env) (mu : List CV) (H : Heap) (k : AV → List Env → List CV → Heap → Option R) (r : R), I f caps args outer mu H k = some r →
  ∃ v o m h, k v o m h = some r ∧ ∀ (k' : AV → List Env → List CV → Heap → Option R) (r' : R), k' v o m h = some r' → I f caps args outer mu H k' = some r'
theorem out_one (n : Heap) (out : Out) : One2 (R := R) (out.run n) := by
  intro k r h
  cases out with
  | pure v N => exact ⟨v, n ++ N, h, fun k' r' h' => h'⟩
  | guard b v N =>
    cases b with
    | true => exact ⟨v, n ++ N, by simpa [Out.run] using h, fun k' r' h' => by simpa [Out.run] using h'⟩
    | false => simp [Out.run] at h
  | pick b v u =>
    cases b with
    | true => exact ⟨v, n, by simpa [Out.run] using h, fun k' r' h' => by simpa [Out.run] using h'⟩
    | false => exact ⟨u, n, by simpa [Out.run] using h, fun k' r' h' => by simpa [Out.run] using h'⟩
  | call C x f =>
    simp only [Out.run, Option.bind_eq_some_iff] at h
    obtain ⟨c, rfl, h⟩ := h
    exact ⟨_, _, h, fun k' r' h' => h'⟩
theorem outM_one (out : OutM) : One2 (R := R) out.run := by
  intro k r h
  cases out with
  | pure v N => exact ⟨v, N, h, fun k' r' h' => h'⟩
  | guard b v N =>
    cases b with
    | true => exact ⟨v, N, by simpa [OutM.run] using h, fun k' r' h' => by simpa [OutM.run] using h'⟩
    | false => simp [OutM.run] at h
  | call C x f =>
    simp only [OutM.run, Option.bind_eq_some_iff] at h
    obtain ⟨c, rfl, h⟩ := h
    exact ⟨_, _, h, fun k' r' h' => h'⟩
theorem evOp_one {I : Inl R} (hI : OneI I) (keep : Option (List Nat)) (o : Oper) (s : Cfg) : One2 (evOp I X keep o s) := by
  intro k r h
  unfold evOp at h ⊢
  split at h
  · obtain ⟨v, H, h1, h2⟩ := outM_one _ _ _ h
    exact ⟨v, _, h1, fun k' r' h' => h2 _ _ h'⟩
  · split at h
    · obtain ⟨v, H, h1, h2⟩ := out_one _ _ _ _ h
      exact ⟨v, _, h1, fun k' r' h' => h2 _ _ h'⟩
    · split at h
      · obtain ⟨v, ou, mu, H, h1, h2⟩ := hI _ _ _ _ _ _ _ _ h
        match ou, h1, h2 with
        | [], h1, _ => cases h1
        | e :: r1, h1, h2 => exact ⟨v, ⟨e, r1, mu, H⟩, h1, fun k' r' h' => h2 _ _ h'⟩
      · cases h
theorem evOpN_one (o : Oper) (s : Cfg) : One2 (R := R) (evOpN X o s) := by
  intro k r h
  unfold evOpN at h ⊢
  split at h
  · obtain ⟨v, H, h1, h2⟩ := out_one _ _ _ _ h
    exact ⟨v, _, h1, fun k' r' h' => h2 _ _ h'⟩
  · cases h
theorem evOps_one {I : Inl R} (hI : OneI I) (keep : Option (List Nat)) (ops : List Oper) : ∀ (l : List Oper) (h : Nat) (s : Cfg), One1 (evOps I X keep ops h l s)
  | [], h, s => fun k r he => ⟨s, he, fun k' r' h' => h'⟩
  | o :: l, h, s => by
    intro k r he
    have ih := evOps_one hI keep ops l
    have go : ∀ s', One1 fun k => (match h with
        | 0 => evOp I X keep o s' fun v t => evOps I X keep ops 0 l ⟨t.env.put o.dst v, t.outer, t.muts, t.heap⟩ k
        | h' + 1 => evOpN X o s' fun v t => evOps I X keep ops h' l ⟨t.env.put o.dst v, t.outer, t.muts, t.heap⟩ k) := by
      intro s' k r he
      cases h with
      | zero =>
        obtain ⟨v, t, h1, h2⟩ := evOp_one hI _ _ _ _ _ he
        obtain ⟨u, h3, h4⟩ := ih _ _ _ _ h1
        exact ⟨u, h3, fun k' r' h' => h2 _ _ (h4 _ _ h')⟩
      | succ h =>
        obtain ⟨v, t, h1, h2⟩ := evOpN_one _ _ _ _ he
        obtain ⟨u, h3, h4⟩ := ih _ _ _ _ h1
        exact ⟨u, h3, fun k' r' h' => h2 _ _ (h4 _ _ h')⟩
    simp only [evOps] at he ⊢
    split at he
    · exact go _ _ _ he
    · split at he
      · split at he
        · rename_i want _ _ d _ _ x _
          cases x <;> cases want
          · exact go _ _ _ he
          · exact ih _ _ _ _ he
          · exact ih _ _ _ _ he
          · exact go _ _ _ he
        · exact ih _ _ _ _ he
        · cases he
      · cases he
theorem iter_mono {F : (Cfg → Option R) → Cfg → Option R} (hF : ∀ f f' : Cfg → Option R, (∀ s r, f s = some r → f' s = some r) → ∀ s r, F f s = some r → F f' s = some r) : ∀ (n m : Nat), n ≤ m → ∀ s r, iter F n s = some r → iter F m s = some r
  | 0, _, _, s, r, h => by cases h
  | n + 1, m + 1, hnm, s, r, h => hF _ _ (iter_mono hF n m (by omega)) s r h
theorem fixO_iff {F : (Cfg → Option R) → Cfg → Option R} (hF : ∀ f f' : Cfg → Option R, (∀ s r, f s = some r → f' s = some r) → ∀ s r, F f s = some r → F f' s = some r) (s : Cfg) (r : R) : fixO F s = some r ↔ ∃ n, iter F n s = some r := by
  constructor
  · intro h
    unfold fixO at h
    split at h
    · exact ⟨_, h⟩
    · cases h
  · rintro ⟨n, h⟩
    have hx : ∃ n, (iter F n s).isSome = true := ⟨n, by rw [h]; rfl⟩
    unfold fixO
    rw [dif_pos hx]
    obtain ⟨r', hr'⟩ := Option.isSome_iff_exists.1 (Classical.choose_spec hx)
    have h1 := iter_mono hF _ (max n (Classical.choose hx)) (Nat.le_max_left _ _) s r h
    have h2 := iter_mono hF _ (max n (Classical.choose hx)) (Nat.le_max_right _ _) s r' hr'
    rw [h1] at h2
    rw [hr', Option.some.inj h2]
/-- what a loop does in one round -/
noncomputable def loopF (I : Inl R) (X : Ctx) (lv : Nat → List Nat) (kp : Nat → Option (List Nat)) (c : Code) (K : Ex → Cfg → Option R) (rec : Cfg → Option R) (u : Cfg) : Option R := evC I X lv kp c u fun e t => match e with
    | .normal => rec (canon (lv (firstReg c)) t)
    | .exit i => K (.exit i) t
    | .ret => K .ret t
theorem loopF_mono {I : Inl R} {lv : Nat → List Nat} {kp : Nat → Option (List Nat)} {c : Code} (hc : ∀ s, One2 (evC I X lv kp c s)) (K K' : Ex → Cfg → Option R) (hK : ∀ e s r, K e s = some r → K' e s = some r) (f f' : Cfg → Option R) (hf : ∀ s r, f s = some r → f' s = some r) (s : Cfg) (r : R) (h : loopF I X lv kp c K f s = some r) : loopF I X lv kp c K' f' s = some r := by
  obtain ⟨e, t, h1, h2⟩ := hc s _ _ h
  refine h2 _ _ ?_
  cases e with
  | normal => exact hf _ _ h1
  | exit i => exact hK _ _ _ h1
  | ret => exact hK _ _ _ h1
theorem loop_one {I : Inl R} {lv : Nat → List Nat} {kp : Nat → Option (List Nat)} {c : Code} (hc : ∀ s, One2 (evC I X lv kp c s)) (s : Cfg) : One2 fun K => fixO (loopF I X lv kp c K) s := by
  intro K r h
  obtain ⟨n, h⟩ := (fixO_iff (loopF_mono hc K K fun _ _ _ h => h) s r).1 h
  have key : ∀ (n : Nat) (s : Cfg), iter (loopF I X lv kp c K) n s = some r → ∃ e t, K e t = some r ∧ ∀ (K' : Ex → Cfg → Option R) (r' : R), K' e t = some r' → iter (loopF I X lv kp c K') n s = some r' := by
    intro n
    induction n with
    | zero => intro s h; cases h
    | succ n ih =>
      intro s h
      obtain ⟨e, t, h1, h2⟩ := hc s _ _ h
      cases e with
      | normal =>
        obtain ⟨e', t', h3, h4⟩ := ih _ h1
        exact ⟨e', t', h3, fun K' r' h' => h2 (fun e t => match e with
          | .normal => iter (loopF I X lv kp c K') n (canon (lv (firstReg c)) t)
          | .exit i => K' (.exit i) t
          | .ret => K' .ret t) r' (h4 K' r' h')⟩
      | exit i => exact ⟨.exit i, t, h1, fun K' r' h' => h2 (fun e t => match e with
          | .normal => iter (loopF I X lv kp c K') n (canon (lv (firstReg c)) t)
          | .exit i => K' (.exit i) t
          | .ret => K' .ret t) r' h'⟩
      | ret => exact ⟨.ret, t, h1, fun K' r' h' => h2 (fun e t => match e with
          | .normal => iter (loopF I X lv kp c K') n (canon (lv (firstReg c)) t)
          | .exit i => K' (.exit i) t
          | .ret => K' .ret t) r' h'⟩
  obtain ⟨e, t, h1, h2⟩ := key n s h
  exact ⟨e, t, h1, fun K' r' h' => (fixO_iff (loopF_mono hc K' K' fun _ _ _ h => h) s r').2 ⟨n, h2 K' r' h'⟩⟩
theorem evC_one {I : Inl R} (hI : OneI I) (lv : Nat → List Nat) (kp : Nat → Option (List Nat)) : ∀ (c : Code) (s : Cfg), One2 (evC I X lv kp c s)
  | .skip, s => fun K r h => ⟨.normal, s, h, fun _ _ h' => h'⟩
  | .region id ops false, s => fun K r h => by
    obtain ⟨t, h1, h2⟩ := evOps_one hI _ _ _ _ _ _ _ h
    exact ⟨.normal, t, h1, fun K' r' h' => h2 _ _ h'⟩
  | .region id ops true, s => fun K r h => by
    simp only [evC] at h ⊢
    cases hb : (X.P.follows .mixedOrders && drawOk ops) with
    | false => rw [hb] at h; cases h
    | true =>
      rw [hb] at h
      obtain ⟨t, h1, h2⟩ := evOps_one hI _ _ _ _ _ _ _ h
      exact ⟨.normal, t, h1, fun K' r' h' => h2 _ _ h'⟩
  | .seq a b, s => fun K r h => by
    obtain ⟨e, t, h1, h2⟩ := evC_one hI lv kp a s _ _ h
    cases e with
    | normal =>
      obtain ⟨e', t', h3, h4⟩ := evC_one hI lv kp b t _ _ h1
      exact ⟨e', t', h3, fun K' r' h' => h2 (fun e t => match e with
        | .normal => evC I X lv kp b t K'
        | .exit i => K' (.exit i) t
        | .ret => K' .ret t) r' (h4 K' r' h')⟩
    | exit i => exact ⟨.exit i, t, h1, fun K' r' h' => h2 (fun e t => match e with
        | .normal => evC I X lv kp b t K'
        | .exit i => K' (.exit i) t
        | .ret => K' .ret t) r' h'⟩
    | ret => exact ⟨.ret, t, h1, fun K' r' h' => h2 (fun e t => match e with
        | .normal => evC I X lv kp b t K'
        | .exit i => K' (.exit i) t
        | .ret => K' .ret t) r' h'⟩
  | .cond c a b, s => fun K r h => by
    simp only [evC] at h ⊢
    split at h
    · rename_i x _
      cases x with
      | true => exact evC_one hI lv kp a s _ _ h
      | false => exact evC_one hI lv kp b s _ _ h
    · cases h
  | .block id c, s => fun K r h => by
    obtain ⟨e, t, h1, h2⟩ := evC_one hI lv kp c s _ _ h
    cases e with
    | normal => exact ⟨.normal, t, h1, fun K' r' h' => h2 (fun e t => match e with
        | .normal => K' .normal t
        | .exit i => cond (Nat.beq i id) (K' .normal t) (K' (.exit i) t)
        | .ret => K' .ret t) r' h'⟩
    | exit i =>
      cases hb : Nat.beq i id with
      | true =>
        simp only [hb, cond_true] at h1
        exact ⟨.normal, t, h1, fun K' r' h' => h2 (fun e t => match e with
          | .normal => K' .normal t
          | .exit i => cond (Nat.beq i id) (K' .normal t) (K' (.exit i) t)
          | .ret => K' .ret t) r' (by simp only [hb, cond_true]; exact h')⟩
      | false =>
        simp only [hb, cond_false] at h1
        exact ⟨.exit i, t, h1, fun K' r' h' => h2 (fun e t => match e with
          | .normal => K' .normal t
          | .exit i => cond (Nat.beq i id) (K' .normal t) (K' (.exit i) t)
          | .ret => K' .ret t) r' (by simp only [hb, cond_false]; exact h')⟩
    | ret => exact ⟨.ret, t, h1, fun K' r' h' => h2 (fun e t => match e with
        | .normal => K' .normal t
        | .exit i => cond (Nat.beq i id) (K' .normal t) (K' (.exit i) t)
        | .ret => K' .ret t) r' h'⟩
  | .loop c, s => fun K r h => by
    obtain ⟨e, t, h1, h2⟩ := loop_one (evC_one hI lv kp c) (canon (lv (firstReg c)) s) K r h
    exact ⟨e, t, h1, fun K' r' h' => h2 K' r' h'⟩
  | .exit i, s => fun K r h => ⟨.exit i, s, h, fun _ _ h' => h'⟩
  | .ret, s => fun K r h => ⟨.ret, s, h, fun _ _ h' => h'⟩
  | .rangeFunc .., _ => fun _ _ h => by cases h
  | .scope _, _ => fun _ _ h => by cases h
  | .label _, _ => fun _ _ h => by cases h
  | .goto _, _ => fun _ _ h => by cases h
  | .refuse .., _ => fun _ _ h => by cases h
theorem evI_one (T : Tab) : ∀ d : Nat, OneI (R := R) (evI X T d)
  | 0 => fun _ _ _ _ _ _ _ _ h => by cases h
  | d + 1 => fun f caps args outer mu H k r h => by
    simp only [evI] at h ⊢
    split at h
    · split at h
      · rename_i fn _ _ c _
        cases hb : (codeOk fn.ntmps c && Nat.ble (args.length + caps.length) fn.ntmps) with
        | false => rw [hb] at h; cases h
        | true =>
          rw [hb, cond_true] at h
          obtain ⟨e, t, h1, h2⟩ := evC_one (evI_one T d) _ _ c _ _ _ h
          have fin : ((retAV X fn t.env t.heap).bind fun v => k v t.outer t.muts t.heap) = some r → ∃ v o m h, k v o m h = some r ∧ ∀ (k' : AV → List Env → List CV → Heap → Option R) (r' : R), k' v o m h = some r' → ((retAV X fn t.env t.heap).bind fun v => k' v t.outer t.muts t.heap) = some r' := by
            intro h
            simp only [Option.bind_eq_some_iff] at h
            obtain ⟨v, hv, h⟩ := h
            exact ⟨v, _, _, _, h, fun k' r' h' => by rw [hv]; exact h'⟩
          cases e with
          | normal =>
            obtain ⟨v, o, m, hh, h3, h4⟩ := fin h1
            exact ⟨v, o, m, hh, h3, fun k' r' h' => h2 (fun e s => match e with
              | .normal => (retAV X fn s.env s.heap).bind fun v => k' v s.outer s.muts s.heap
              | .ret => (retAV X fn s.env s.heap).bind fun v => k' v s.outer s.muts s.heap
              | .exit _ => none) r' (h4 k' r' h')⟩
          | ret =>
            obtain ⟨v, o, m, hh, h3, h4⟩ := fin h1
            exact ⟨v, o, m, hh, h3, fun k' r' h' => h2 (fun e s => match e with
              | .normal => (retAV X fn s.env s.heap).bind fun v => k' v s.outer s.muts s.heap
              | .ret => (retAV X fn s.env s.heap).bind fun v => k' v s.outer s.muts s.heap
              | .exit _ => none) r' (h4 k' r' h')⟩
          | exit i => cases h1
      · cases h
    · cases h
/-- A LOOP IS ITS FIRST ROUND AND THE REST. -/
theorem loop_unfold {I : Inl R} (hI : OneI I) (lv : Nat → List Nat) (kp : Nat → Option (List Nat)) (c : Code) (K : Ex → Cfg → Option R) (s : Cfg) : fixO (loopF I X lv kp c K) s = loopF I X lv kp c K (fixO (loopF I X lv kp c K)) s := by
  have hc := evC_one (X := X) hI lv kp c
  have hm := loopF_mono hc K K fun _ _ _ h => h
  apply Option.ext
  intro r
  constructor
  · intro h
    obtain ⟨n, h⟩ := (fixO_iff hm s r).1 h
    cases n with
    | zero => cases h
    | succ n => exact hm _ _ (fun s r h => (fixO_iff hm s r).2 ⟨n, h⟩) s r h
  · intro h
    obtain ⟨e, t, h1, h2⟩ := hc s _ _ h
    cases e with
    | normal =>
      obtain ⟨n, h1⟩ := (fixO_iff hm _ r).1 h1
      exact (fixO_iff hm s r).2 ⟨n + 1, h2 (fun e t => match e with
        | .normal => iter (loopF I X lv kp c K) n (canon (lv (firstReg c)) t)
        | .exit i => K (.exit i) t
        | .ret => K .ret t) r h1⟩
    | exit i => exact (fixO_iff hm s r).2 ⟨1, h2 (fun e t => match e with
        | .normal => iter (loopF I X lv kp c K) 0 (canon (lv (firstReg c)) t)
        | .exit i => K (.exit i) t
        | .ret => K .ret t) r h1⟩
    | ret => exact (fixO_iff hm s r).2 ⟨1, h2 (fun e t => match e with
        | .normal => iter (loopF I X lv kp c K) 0 (canon (lv (firstReg c)) t)
        | .exit i => K (.exit i) t
        | .ret => K .ret t) r h1⟩
theorem rsC_eq {I : Inl R} (hI : OneI I) (lv : Nat → List Nat) (kp : Nat → Option (List Nat)) (key : Nat) : ∀ (c : Code) (s : Cfg) (K : Ex → Cfg → Option R), rsC I X lv kp key c s K = rs1C I X lv kp key c s K
  | .seq a b, s, K => by simp only [rsC, rs1C, rsC_eq hI lv kp key a, rsC_eq hI lv kp key b]
  | .cond _ a b, s, K => by simp only [rsC, rs1C, rsC_eq hI lv kp key a, rsC_eq hI lv kp key b]
  | .block id c, s, K => by simp only [rsC, rs1C, rsC_eq hI lv kp key c]
  | .loop c, s, K => by
    simp only [rsC, rs1C, rsC_eq hI lv kp key c]
    cases Nat.beq (firstReg c) key with
    | false => rfl
    | true => exact loop_unfold hI lv kp c K s
  | .skip, _, _ => rfl
  | .region .., _, _ => rfl
  | .exit _, _, _ => rfl
  | .ret, _, _ => rfl
  | .rangeFunc .., _, _ => rfl
  | .scope _, _, _ => rfl
  | .label _, _, _ => rfl
  | .goto _, _, _ => rfl
  | .refuse .., _, _ => rfl
theorem rsF_eq (X : Ctx) (T : Tab) (d : Nat) (f : FuncId) (ps : List Par) (rs : List (Bool × Ty)) (key : Nat) (s : Cfg) : rsF X T d f ps rs key s = rs1F X T d f ps rs key s := by
  unfold rsF rs1F
  split
  · split
    · exact rsC_eq (evI_one T d) _ _ _ _ _ _
    · rfl
  · rfl
end Go.Proofs.YtglbaihiibdemaaGreatDoor.Am
