/- What is proved here: the operations at the head of a drawn region, in any order that the region lets them take. -/
import Derived.Test.YtglbaihiibdemaaGreatDoorAm14
namespace Go.Proofs.YtglbaihiibdemaaGreatDoor.Am
open Go
set_option autoImplicit false
variable {X : Ctx} {mine : Nat → Prop} {w w' w'' : World} {g g' g'' : Gh} {lk lk' lk'' : Nat → Option AObj} {E E' : Env} {a : Act} {n : Nat} {o : Oper}

theorem lkAdd_at {N : List AObj} {p : Nat} {x : AObj} (h1 : n ≤ p) (h2 : N[p - n]? = some x) : lkAdd lk n N p = some x := by
  unfold lkAdd
  rw [if_pos h1, h2]
theorem Grows0.trans (h : Grows0 mine w w' g g' lk lk') (k : Grows0 mine w' w'' g' g'' lk' lk'') : Grows0 mine w w'' g g'' lk lk'' := by
  have old : ∀ o x, lk o = some x → g''.val o = g.val o ∧ g''.fp o = g.fp o ∧ lk'' o = some x := fun o x hx => by
    obtain ⟨h1, h2, h3⟩ := h.val o x hx
    obtain ⟨k1, k2, k3⟩ := k.val o x h3
    exact ⟨k1.trans h1, k2.trans h2, k3⟩
  refine ⟨h.kept.trans k.kept (by simp) (by simp), k.mv.trans h.mv, old, fun o => (h.dead o).trans (k.dead o), fun o hd => k.dead' o ((h.dead o).1 hd), fun o x hx => ?_, fun o o' x x' hne h1 h2 h3 h4 b hb hb' => ?_, h.live⟩
  · rcases k.new o x hx with k1 | ⟨k1, k2⟩
    · rcases h.new o x k1 with h1 | ⟨h1, h2⟩
      · exact .inl h1
      · refine .inr ⟨h1, fun b hb => ?_⟩
        rw [(k.val o x k1).2.1] at hb
        obtain ⟨p, q, r⟩ := h2 b hb
        exact ⟨p, Nat.lt_of_lt_of_le q k.kept.size, r⟩
    · refine .inr ⟨?_, fun b hb => ?_⟩
      · cases hl : lk o with
        | none => rfl
        | some y => rw [(h.val o y hl).2.2] at k1; cases k1
      · obtain ⟨p, q, r⟩ := k2 b hb
        exact ⟨Nat.le_trans h.kept.size p, q, r⟩
  · rcases k.new o x h3 with k1 | ⟨k1, k2⟩ <;> rcases k.new o' x' h4 with k3 | ⟨k3, k4⟩
    · rw [(k.val o x k1).2.1] at hb
      rw [(k.val o' x' k3).2.1] at hb'
      exact h.dis o o' x x' hne h1 h2 k1 k3 b hb hb'
    · rw [(k.val o x k1).2.1] at hb
      rcases h.new o x k1 with h5 | ⟨_, h5⟩
      · rw [h1] at h5; cases h5
      · have := (h5 b hb).2.1
        have := (k4 b hb').1
        omega
    · rw [(k.val o' x' k3).2.1] at hb'
      rcases h.new o' x' k3 with h5 | ⟨_, h5⟩
      · rw [h2] at h5; cases h5
      · have := (h5 b hb').2.1
        have := (k2 b hb).1
        omega
    · exact k.dis o o' x x' hne k1 k3 h3 h4 b hb hb'

/-! ### what is named is there, or used up -/
theorem cv_ids {ok : Nat → Prop} {c : CV} {v : Value} (h : CVRel w ok g lk c v) : ∀ p ∈ c.ids, g.dead p ∨ ∃ x, lk p = some x := by
  intro p hp
  cases c with
  | ref q =>
    obtain rfl : p = q := by simpa [CV.ids] using hp
    rcases h.2 with h | ⟨t, e, xs, h, _⟩
    · exact .inl h
    · exact .inr ⟨_, h⟩
  | tsl q m =>
    obtain rfl : p = q := by simpa [CV.ids] using hp
    rcases h.2 with h | ⟨t, cs, b, h, _⟩
    · exact .inl h
    · exact .inr ⟨_, h⟩
  | ptr q i off =>
    obtain rfl : p = q := by simpa [CV.ids] using hp
    rcases h.2 with h | ⟨x, h, _⟩
    · exact .inl h
    · exact .inr ⟨_, h⟩
  | _ => simp [CV.ids] at hp
theorem cvs_ids {ok : Nat → Prop} {cs : List CV} {vs : List Value} (h : All2 (CVRel w ok g lk) cs vs) : ∀ p ∈ cs.flatMap CV.ids, g.dead p ∨ ∃ x, lk p = some x := by
  intro p hp
  obtain ⟨c, hc, hp⟩ := List.mem_flatMap.1 hp
  obtain ⟨i, hi, he⟩ := List.getElem_of_mem hc
  obtain ⟨v, _, hv⟩ := h.get i c (by rw [List.getElem?_eq_getElem hi, he])
  exact cv_ids hv p hp
theorem av_ids {ok : Nat → Prop} {x : AV} {v : Value} (h : AVRel w ok g lk x v) : ∀ p ∈ x.ids, g.dead p ∨ ∃ y, lk p = some y := by
  cases x with
  | undef => intro p hp; simp [AV.ids] at hp
  | skip => intro p hp; simp [AV.ids] at hp
  | c c => exact cv_ids h
  | mix cs => obtain ⟨vs, _, h⟩ := h; exact cvs_ids h
  | fn f cs => obtain ⟨vs, _, h⟩ := h; exact cvs_ids h
  | tup l =>
    obtain ⟨vs, _, h⟩ := h
    intro p hp
    obtain ⟨q, hq, hp⟩ := List.mem_flatMap.1 hp
    obtain ⟨i, hi, he⟩ := List.getElem_of_mem hq
    obtain ⟨v, _, hv⟩ := h.get i q (by rw [List.getElem?_eq_getElem hi, he])
    obtain ⟨b, cs⟩ := q
    cases b with
    | true => obtain ⟨us, _, h5⟩ := hv; exact cvs_ids h5 p hp
    | false =>
      obtain ⟨c, h5, h6⟩ := hv
      subst h5
      exact cv_ids h6 p (by simpa using hp)

/-! ### one operation of a region -/
def Wants (ops : Array Oper) (E : Env) (o : Oper) : Prop := match o.guard with
  | none => True
  | some (j, want) => ∃ d, (ops[j]?).bind (·.dst) = some d ∧ E.get d = .c (.bool want)
def Skips (ops : Array Oper) (E : Env) (o : Oper) : Prop := ∃ j want d, o.guard = some (j, want) ∧ (ops[j]?).bind (·.dst) = some d ∧ (E.get d = .c (.bool (!want)) ∨ E.get d = .skip)
def StepOk (X : Ctx) (ops : Array Oper) (E : Env) (n : Nat) (lk : Nat → Option AObj) (o : Oper) (v : AV) (N : List AObj) : Prop :=
  (Wants ops E o ∧ ∃ out, opN X E lk n o = some out ∧ out.gives v N) ∨ (Skips ops E o ∧ v = .skip ∧ N = [])
theorem wants_wanted {ops : Array Oper} (h : Good X mine w g lk E a) (hw : Wants ops E o) : Region.wanted o (yielded ops a.tmps) = true := by
  unfold Wants at hw
  unfold Region.wanted
  split at hw
  · rename_i hg; rw [hg]
  · rename_i j want hg
    obtain ⟨d, hd, he⟩ := hw
    have h1 := h.env d
    rw [he] at h1
    have h1 : a.tmps.getD d undef = .bool want := h1
    have h2 : a.tmps[d]? = some (.bool want) := by
      simp only [Array.getD_eq_getD_getElem?] at h1
      cases h3 : a.tmps[d]? with
      | none => rw [h3] at h1; simp [undef] at h1
      | some v => rw [h3] at h1; simpa using h1
    simp [hg, yielded, hd, h2]
theorem skips_wanted {ops : Array Oper} (h : Good X mine w g lk E a) (hw : Skips ops E o) : Region.wanted o (yielded ops a.tmps) = false := by
  obtain ⟨j, want, d, hg, hd, he⟩ := hw
  have h1 := h.env d
  have : yielded ops a.tmps j ≠ some want := by
    unfold yielded
    rw [hd, Option.bind_some]
    rcases he with he | he <;> rw [he] at h1
    · have h1 : a.tmps.getD d undef = .bool (!want) := h1
      simp only [Array.getD_eq_getD_getElem?] at h1
      cases h3 : a.tmps[d]? with
      | none => simp
      | some v =>
        rw [h3] at h1
        simp only [Option.getD_some] at h1
        subst h1
        cases want <;> simp
    · have h1 : a.tmps.getD d undef = undef := h1
      simp only [Array.getD_eq_getD_getElem?] at h1
      cases h3 : a.tmps[d]? with
      | none => simp
      | some v =>
        rw [h3] at h1
        simp only [Option.getD_some] at h1
        subst h1
        simp [undef]
  unfold Region.wanted
  rw [hg]
  simpa using this
theorem get_put (E : Env) (d : Option Nat) (v : AV) (t : Nat) : (E.put d v).get t = if d = some t then v else E.get t := by
  cases d with
  | none => simp [Env.put]
  | some u =>
    simp only [Env.put, Env.get]
    by_cases h : u = t
    · subst h; simp
    · have : Nat.beq u t = false := by
        cases h1 : Nat.beq u t with
        | true => exact absurd (Nat.eq_of_beq_eq_true h1) h
        | false => rfl
      simp [h, this]
theorem put_size (a : Act) (d : Option Tmp) (v : Value) : (a.put d v).tmps.size = a.tmps.size := by
  cases d <;> simp [Act.put]
theorem put_get (a : Act) (d : Option Tmp) (v : Value) (hd : ∀ u, d = some u → u < a.tmps.size) (t : Nat) : (a.put d v).tmps.getD t undef = if d = some t then v else a.tmps.getD t undef := by
  cases d with
  | none => simp [Act.put]
  | some u =>
    have := hd u rfl
    simp only [Act.put, Array.getD_eq_getD_getElem?, Array.getElem?_setIfInBounds]
    by_cases h : u = t
    · subst h; simp [this]
    · simp [h]
theorem Good.step (h : Good X mine w g lk E a) (hg : Grows X mine w w' g g' lk lk') {v : AV} {v' : Value} (hv : AVRel w' (okB w' g' lk') g' lk' v v') {d : Option Tmp} (hd : ∀ u, d = some u → u < a.tmps.size) (hE : ∀ t, E'.get t = (E.put d v).get t) : Good X mine w' g' lk' E' (a.put d v') := by
  refine ⟨hg.hrel h.hr, hg.live', fun t => ?_, fun u hu => h.glob u ((hg.kept.toMine (by simp)).trans hu), fun b hb => h.mine b (Nat.le_trans hg.kept.size hb)⟩
  rw [hE, get_put, put_get a d v' hd]
  split
  · exact hv
  · exact hg.moves.av (h.env t)
theorem step_sound (hT : TabOk X) (h : Good X mine w g lk E a) {ops : Array Oper} {v : AV} {N : List AObj} (hs : StepOk X ops E n lk o v N) (hfree : ∀ i, i < N.length → lk (n + i) = none ∧ ¬ g.dead (n + i)) {K : Act → World → Prop} {Q : Exit → Act → World → Prop}
    (hK : ∀ v' w' g', Grows X mine w w' g g' lk (lkAdd lk n N) → AVRel w' (okB w' g' (lkAdd lk n N)) g' (lkAdd lk n N) v v' → K (a.put o.dst v') w') :
    if Region.wanted o (yielded ops a.tmps) then o.wp X.P a w K Q else K (a.put o.dst undef) w := by
  rcases hs with ⟨hw, out, ho, hg⟩ | ⟨hw, rfl, rfl⟩
  · rw [wants_wanted h hw]
    exact opN_sound hT h ho hg hfree K Q hK
  · rw [skips_wanted h hw]
    exact hK undef w g h.still rfl

/-! ### the heads -/
structure Canon (X : Ctx) (ops : Array Oper) (h : Nat) (E0 : Env) (lk0 : Nat → Option AObj) (V : Nat → AV) (N : Nat → List AObj) (ns : Nat → Nat) : Prop where
  free : ∀ p, ns 0 ≤ p → lk0 p = none
  next : ∀ j, j < h → ns (j + 1) = ns j + (N j).length
  step : ∀ j o, j < h → ops[j]? = some o → ∃ (Ej : Env) (lkj : Nat → Option AObj), (∀ i t, i < j → (ops[i]?).bind (·.dst) = some t → Ej.get t = V i) ∧ (∀ t, (∀ i, i < j → (ops[i]?).bind (·.dst) ≠ some t) → Ej.get t = E0.get t) ∧
    (∀ p x, lkj p = some x → lk0 p = some x ∨ ∃ i, i < j ∧ ns i ≤ p ∧ (N i)[p - ns i]? = some x) ∧ StepOk X ops Ej (ns j) lkj o (V j) (N j)
structure Part (X : Ctx) (mine : Nat → Prop) (ops : Array Oper) (h m : Nat) (E0 : Env) (lk0 : Nat → Option AObj) (V : Nat → AV) (N : Nat → List AObj) (ns : Nat → Nat) (w0 : World) (g0 : Gh) (L : Nat → Prop) (w : World) (g : Gh) (lk : Nat → Option AObj) (E : Env) (a : Act) : Prop where
  good : Good X mine w g lk E a
  size : a.tmps.size = m
  dfr : a.defers = []
  env1 : ∀ j t, j < h → L j → (ops[j]?).bind (·.dst) = some t → E.get t = V j
  env0 : ∀ t, (∀ j, j < h → L j → (ops[j]?).bind (·.dst) ≠ some t) → E.get t = E0.get t
  heap : ∀ p x, lk p = some x ↔ lk0 p = some x ∨ ∃ j, j < h ∧ L j ∧ ns j ≤ p ∧ (N j)[p - ns j]? = some x
  grows : Grows0 mine w0 w g0 g lk0 lk
section
variable {ops : Array Oper} {h m : Nat} {E0 : Env} {lk0 : Nat → Option AObj} {V : Nat → AV} {N : Nat → List AObj} {ns : Nat → Nat} {w0 : World} {g0 : Gh} {L : Nat → Prop}
theorem Canon.mono (c : Canon X ops h E0 lk0 V N ns) : ∀ {i j : Nat}, i ≤ j → j ≤ h → ns i ≤ ns j := by
  intro i j hij
  induction j with
  | zero => intro _; obtain rfl : i = 0 := by omega
            exact Nat.le_refl _
  | succ j ih =>
    intro hj
    rcases Nat.lt_or_ge i (j + 1) with h1 | h1
    · have := ih (by omega) (by omega)
      have := c.next j (by omega)
      omega
    · obtain rfl : i = j + 1 := by omega
      exact Nat.le_refl _
theorem Canon.same (c : Canon X ops h E0 lk0 V N ns) {i j p : Nat} {x y : AObj} (hi : i < h) (hj : j < h) (h1 : ns i ≤ p) (h2 : (N i)[p - ns i]? = some x) (h3 : ns j ≤ p) (h4 : (N j)[p - ns j]? = some y) : i = j := by
  have l1 := (List.getElem?_eq_some_iff.1 h2).1
  have l2 := (List.getElem?_eq_some_iff.1 h4).1
  have e1 := c.next i hi
  have e2 := c.next j hj
  rcases Nat.lt_trichotomy i j with hl | rfl | hl
  · have := c.mono (i := i + 1) (j := j) (by omega) (by omega)
    omega
  · rfl
  · have := c.mono (i := j + 1) (j := i) (by omega) (by omega)
    omega
theorem headOk_spec (hok : headOk ops h = true) {i : Nat} {o : Oper} (hi : i < h) (ho : ops[i]? = some o) :
    (∀ e ∈ o.after, Region.binds .any e = true → e.on < i) ∧ ∀ j d, j < h → (ops[j]?).bind (·.dst) = some d → (i = j ∨ o.dst ≠ some d) ∧ (d ∈ o.looksAt ops → j < i ∧ Region.waitsFor .any ops i j = true) := by
  have h1 := List.all_eq_true.1 hok i (List.mem_range.2 hi)
  rw [ho] at h1
  simp only [Bool.and_eq_true] at h1
  refine ⟨fun e he hb => ?_, fun j d hj hd => ?_⟩
  · have h2 := Array.all_eq_true'.1 h1.1 e he
    simp only [hb, Bool.not_true, Bool.false_or] at h2
    simpa using h2
  · have h2 := List.all_eq_true.1 h1.2 j (List.mem_range.2 hj)
    rw [hd] at h2
    simp only [Bool.and_eq_true, Bool.or_eq_true, Nat.beq_eq, Bool.not_eq_true', beq_eq_false_iff_ne, ne_eq] at h2
    refine ⟨h2.1, fun hm => ?_⟩
    rcases h2.2 with h3 | h3
    · have := List.contains_iff_mem.2 hm
      rw [this] at h3
      cases h3
    · exact ⟨by simpa using h3.1, h3.2⟩
/-- the canonical step, where only some of the others were taken -/
theorem Part.stepOk (c : Canon X ops h E0 lk0 V N ns) (hok : headOk ops h = true) (hd0 : ∀ p, g0.dead p → p < ns 0) (p : Part X mine ops h m E0 lk0 V N ns w0 g0 L w g lk E a) {i : Nat} {o : Oper} (hi : i < h) (ho : ops[i]? = some o) (hni : ¬ L i)
    (hr : ∀ e ∈ o.after, Region.binds .any e = true → L e.on) : StepOk X ops E (ns i) lk o (V i) (N i) ∧ ∀ k, k < (N i).length → lk (ns i + k) = none ∧ ¬ g.dead (ns i + k) := by
  obtain ⟨hafter, hdep⟩ := headOk_spec hok hi ho
  obtain ⟨Ej, lkj, e1, e0, hlk, hstep⟩ := c.step i o hi ho
  have reads : ∀ t ∈ o.looksAt ops, E.get t = Ej.get t := by
    intro t ht
    by_cases hx : ∃ j, j < h ∧ (ops[j]?).bind (·.dst) = some t
    · obtain ⟨j, hj, hd⟩ := hx
      obtain ⟨hji, hw⟩ := (hdep j t hj hd).2 ht
      obtain ⟨oj, hoj, e, he, hb, hon⟩ := Region.waitsFor_spec hw
      obtain rfl : oj = o := Option.some.inj (hoj.symm.trans ho)
      have hLj : L j := hon ▸ hr e he hb
      rw [p.env1 j t hj hLj hd, e1 j t hji hd]
    · rw [p.env0 t (fun j hj _ hd => hx ⟨j, hj, hd⟩), e0 t (fun j hj hd => hx ⟨j, by omega, hd⟩)]
  have hns0 : ∀ j, j ≤ h → ns 0 ≤ ns j := fun j hj => c.mono (Nat.zero_le _) hj
  have hdead : ∀ q, g.dead q → q < ns 0 := fun q hq => hd0 q ((p.grows.dead q).2 hq)
  have hev : ∀ x ∈ o.op.operands, E.ev x = Ej.ev x := by
    intro x hx
    cases x with
    | tmp t =>
      refine reads t (List.mem_append_left _ (List.mem_filterMap.2 ⟨.tmp t, by simpa using hx, rfl⟩))
    | _ => rfl
  refine ⟨?_, fun k hk => ⟨?_, fun hq => ?_⟩⟩
  · have guards : ∀ j want d, o.guard = some (j, want) → (ops[j]?).bind (·.dst) = some d → E.get d = Ej.get d := by
      intro j want d hg hd
      refine reads d (List.mem_append_right _ ?_)
      rw [hg]
      simp [hd]
    rcases hstep with ⟨hw, out, hop, hgv⟩ | ⟨hw, hv, hN⟩
    · refine .inl ⟨?_, out, ?_, hgv⟩
      · unfold Wants at hw ⊢
        split at hw
        · trivial
        · rename_i j want hg
          obtain ⟨d, hd, he⟩ := hw
          exact ⟨d, hd, (guards j want d hg hd).trans he⟩
      · rw [← opN_env hev] at hop
        refine opN_up (fun x hx q hq y hy => ?_) hop
        rcases av_ids (p.good.ev x) q hq with hd | ⟨z, hz⟩
        · have hq0 := hdead q hd
          rcases hlk q y hy with h1 | ⟨j, hj, h1, _⟩
          · exact (p.heap q y).2 (.inl h1)
          · have := hns0 j (by omega)
            omega
        · rcases hlk q y hy with h1 | ⟨j, hj, h1, h2⟩
          · exact (p.heap q y).2 (.inl h1)
          · rcases (p.heap q z).1 hz with h3 | ⟨j', hj', hL, h3, h4⟩
            · have := hns0 j (by omega)
              rw [c.free q (by omega)] at h3
              cases h3
            · obtain rfl := c.same (by omega) hj' h1 h2 h3 h4
              exact (p.heap q y).2 (.inr ⟨j, hj', hL, h1, h2⟩)
    · refine .inr ⟨?_, hv, hN⟩
      obtain ⟨j, want, d, hg, hd, he⟩ := hw
      exact ⟨j, want, d, hg, hd, by rw [guards j want d hg hd]; exact he⟩
  · cases hl : lk (ns i + k) with
    | none => rfl
    | some y =>
      have := hns0 i (by omega)
      rcases (p.heap _ y).1 hl with h1 | ⟨j, hj, hL, h1, h2⟩
      · rw [c.free _ (by omega)] at h1; cases h1
      · obtain rfl := c.same (i := i) (p := ns i + k) (x := (N i)[k]) hi hj (by omega) (by simp [hk]) h1 h2
        exact absurd hL hni
  · have := hns0 i (by omega)
    have := hdead _ hq
    omega
theorem Part.next (c : Canon X ops h E0 lk0 V N ns) (hok : headOk ops h = true) (hdst : ∀ o ∈ ops, ∀ u, o.dst = some u → u < m) (p : Part X mine ops h m E0 lk0 V N ns w0 g0 L w g lk E a) {i : Nat} {o : Oper} (hi : i < h) (ho : ops[i]? = some o)
    (hfree : ∀ k, k < (N i).length → lk (ns i + k) = none ∧ ¬ g.dead (ns i + k)) {w' : World} {g' : Gh} {v' : Value} (hg : Grows X mine w w' g g' lk (lkAdd lk (ns i) (N i))) (hv : AVRel w' (okB w' g' (lkAdd lk (ns i) (N i))) g' (lkAdd lk (ns i) (N i)) (V i) v') {L' : Nat → Prop} (hL' : ∀ j, L' j ↔ j = i ∨ L j) :
    Part X mine ops h m E0 lk0 V N ns w0 g0 L' w' g' (lkAdd lk (ns i) (N i)) (E.put o.dst (V i)) (a.put o.dst v') := by
  obtain ⟨_, hdep⟩ := headOk_spec hok hi ho
  have hdi : (ops[i]?).bind (·.dst) = o.dst := by rw [ho]; rfl
  refine ⟨p.good.step hg hv (fun u hu => by rw [p.size]; exact hdst o (Array.mem_of_getElem? ho) u hu) (fun t => rfl), by rw [put_size]; exact p.size, by rw [← p.dfr]; cases o.dst <;> rfl, fun j t hj hL hd => ?_, fun t ht => ?_, fun q x => ?_, p.grows.trans hg.toGrows0⟩
  · rw [get_put]
    by_cases hji : j = i
    · subst hji
      rw [hdi] at hd
      rw [if_pos hd]
    · rw [if_neg ((hdep j t hj hd).1.resolve_left (fun e => hji e.symm))]
      exact p.env1 j t hj (((hL' j).1 hL).resolve_left hji) hd
  · rw [get_put, if_neg (by have := ht i hi ((hL' i).2 (.inl rfl)); rwa [hdi] at this)]
    exact p.env0 t fun j hj hL => ht j hj ((hL' j).2 (.inr hL))
  · constructor
    · intro hx
      rcases lkAdd_new hx with h1 | ⟨h1, h2⟩
      · rcases (p.heap q x).1 h1 with h3 | ⟨j, hj, hL, h3⟩
        · exact .inl h3
        · exact .inr ⟨j, hj, (hL' j).2 (.inr hL), h3⟩
      · exact .inr ⟨i, hi, (hL' i).2 (.inl rfl), h1, h2⟩
    · rintro (h1 | ⟨j, hj, hL, h1, h2⟩)
      · exact lkAdd_old (fun k hk => (hfree k hk).1) ((p.heap q x).2 (.inl h1))
      · by_cases hji : j = i
        · subst hji; exact lkAdd_at h1 h2
        · exact lkAdd_old (fun k hk => (hfree k hk).1) ((p.heap q x).2 (.inr ⟨j, hj, ((hL' j).1 hL).resolve_left hji, h1, h2⟩))
theorem head_any (hT : TabOk X) (c : Canon X ops h E0 lk0 V N ns) (hok : headOk ops h = true) (hh : h ≤ ops.size) (htail : h = ops.size ∨ (Region.sinkB .any ops h = true ∧ Region.chainB .any ops h = true)) (hdst : ∀ o ∈ ops, ∀ u, o.dst = some u → u < m) (hd0 : ∀ p, g0.dead p → p < ns 0)
    {Q : Exit → Act → World → Prop} {f : Nat} (HT : ∀ w g lk E a, Part X mine ops h m E0 lk0 V N ns w0 g0 (fun j => j < h) w g lk E a → wpAny X.P .any ops Q f (headArr h ops.size) a w) :
    ∀ (k : Nat) (U : List Nat) (listed : Array Bool) (w : World) (g : Gh) (lk : Nat → Option AObj) (E : Env) (a : Act), U.length = k → HeadInv .any ops h listed → U.Nodup → (∀ j, j ∈ U ↔ j < h ∧ listed.getD j false = false) →
      Part X mine ops h m E0 lk0 V N ns w0 g0 (fun j => listed.getD j false = true) w g lk E a → wpAny X.P .any ops Q (k + f) listed a w := by
  intro k
  induction k with
  | zero =>
    intro U listed w g lk E a hU inv hnd hmem p
    obtain rfl : U = [] := List.eq_nil_of_length_eq_zero hU
    have hall : ∀ j, j < h → listed.getD j false = true := fun j hj => by
      cases hl : listed.getD j false with
      | true => rfl
      | false => have := (hmem j).2 ⟨hj, hl⟩; simp at this
    have hL : listed = headArr h ops.size := by
      apply Array.ext
      · simp [headArr, inv.size]; omega
      · intro i h1 h2
        by_cases hi : i < h
        · have := hall i hi
          simp only [Array.getD_eq_getD_getElem?, Array.getElem?_eq_getElem h1, Option.getD_some] at this
          simp [headArr, List.getElem_append, hi, this]
        · have := inv.tail i (by omega) (by rw [← inv.size]; exact h1)
          simp only [Array.getD_eq_getD_getElem?, Array.getElem?_eq_getElem h1, Option.getD_some] at this
          simp [headArr, List.getElem_append, hi, this]
    rw [Nat.zero_add, hL]
    refine HT w g lk E a { p with env1 := fun j t hj _ hd => p.env1 j t hj (hall j hj) hd, env0 := fun t ht => p.env0 t fun j hj _ => ht j hj hj, heap := fun q x => ?_ }
    rw [p.heap q x]
    constructor
    · rintro (h1 | ⟨j, hj, _, h1⟩)
      · exact .inl h1
      · exact .inr ⟨j, hj, hj, h1⟩
    · rintro (h1 | ⟨j, hj, _, h1⟩)
      · exact .inl h1
      · exact .inr ⟨j, hj, hall j hj, h1⟩
  | succ k ih =>
    intro U listed w g lk E a hU inv hnd hmem p
    rw [show k + 1 + f = (k + f) + 1 by omega]
    -- the first that is not listed is ready
    have ready : ∀ i, i < h → listed.getD i false = false → ∃ j, j ∈ Region.ready .any ops listed := by
      intro i
      induction i using Nat.strongRecOn with
      | _ i ihi =>
        intro hi hl
        obtain ⟨o, ho⟩ : ∃ o, ops[i]? = some o := ⟨ops[i]'(by omega), by simp⟩
        obtain ⟨hafter, _⟩ := headOk_spec hok hi ho
        by_cases hx : ∀ e ∈ o.after, Region.binds .any e = true → listed.getD e.on false = true
        · exact ⟨i, mem_ready.2 ⟨getD_in (by rw [inv.size]; omega) hl, o, ho, hx⟩⟩
        · simp only [Classical.not_forall] at hx
          obtain ⟨e, he, hb, hne⟩ := hx
          exact ihi e.on (hafter e he hb) (by have := hafter e he hb; omega) (by simpa using hne)
    obtain ⟨u, hu⟩ : ∃ u, u ∈ U := by
      cases U with
      | nil => simp at hU
      | cons u _ => exact ⟨u, by simp⟩
    obtain ⟨hu1, hu2⟩ := (hmem u).1 hu
    refine ⟨fun h0 => ?_, fun i hi => ?_⟩
    · obtain ⟨j, hj⟩ := ready u hu1 hu2
      rw [h0] at hj
      cases hj
    · have hih : i < h := by
        rcases Nat.lt_or_ge i h with h1 | h1
        · exact h1
        · obtain ⟨_, o, ho, _⟩ := mem_ready.1 hi
          have := (Array.getElem?_eq_some_iff.1 ho).1
          rcases htail with h2 | ⟨h2, h3⟩
          · omega
          · exact absurd hi (tail_waits h2 h3 (by omega) inv _ u rfl hu1 (getD_in (by rw [inv.size]; omega) hu2) i h1)
      obtain ⟨hun, o, ho, hall⟩ := mem_ready.1 hi
      have hun' := getD_both hun
      have hiU : i ∈ U := (hmem i).2 ⟨hih, hun'⟩
      obtain ⟨hs, hfree⟩ := p.stepOk c hok hd0 hih ho (by simp [hun']) hall
      have key := step_sound (K := wpAny X.P .any ops Q (k + f) (listed.setIfInBounds i true)) (Q := Q) hT p.good hs hfree fun v' w' g' hg hv => by
        have hset : ∀ j, (listed.setIfInBounds i true).getD j false = true ↔ j = i ∨ listed.getD j false = true := by
          intro j
          by_cases hji : i = j
          · subst hji
            have : i < listed.size := by rw [inv.size]; omega
            simp [this]
          · rw [getD_set_ne false hji]
            exact ⟨.inr, fun h => h.resolve_left (fun e => hji e.symm)⟩
        refine ih (U.erase i) _ w' g' _ _ _ (by rw [List.length_erase_of_mem hiU, hU]; rfl) (inv.set hi hih) (hnd.erase i) (fun j => ?_) (p.next c hok hdst hih ho hfree hg hv hset)
        rw [hnd.mem_erase_iff, hmem j]
        have := hset j
        constructor
        · rintro ⟨h1, h2, h3⟩
          refine ⟨h2, ?_⟩
          cases h4 : (listed.setIfInBounds i true).getD j false with
          | false => rfl
          | true =>
            rcases this.1 h4 with h5 | h5
            · exact absurd h5 h1
            · rw [h5] at h3; cases h3
        · rintro ⟨h1, h2⟩
          refine ⟨?_, h1, ?_⟩
          · rintro rfl
            rw [this.2 (.inl rfl)] at h2
            cases h2
          · cases h4 : listed.getD j false with
            | false => rfl
            | true => rw [this.2 (.inr h4)] at h2; cases h2
      unfold wpOp
      rw [ho]
      simp only
      split at key
      · rename_i hw; rw [if_pos hw]; exact .inl key
      · rename_i hw; rw [if_neg hw]; exact key
end
end Go.Proofs.YtglbaihiibdemaaGreatDoor.Am
