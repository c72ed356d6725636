/- What is proved here: an operation that changes nothing looks at its operands alone, and at the objects that they name. -/
import Derived.Test.YtglbaihiibdemaaGreatDoorAm13
namespace Go.Proofs.YtglbaihiibdemaaGreatDoor.Am
open Go
set_option autoImplicit false
variable {X : Ctx} {lk lk' : Nat → Option AObj} {E E' : Env} {n : Nat} {o : Oper}

theorem mapM_env {l : List Operand} (h : ∀ x ∈ l, E'.ev x = E.ev x) : (l.mapM fun x => match E'.ev x with | .c v => some v | _ => none) = (l.mapM fun x => match E.ev x with | .c v => some v | _ => none) := by
  induction l with
  | nil => rfl
  | cons x l ih => rw [List.mapM_cons, List.mapM_cons, h x List.mem_cons_self, ih fun y hy => h y (List.mem_cons_of_mem _ hy)]
theorem optI_env {d : Int} {x : Option Operand} (h : ∀ y ∈ x.toArray, E'.ev y = E.ev y) : optI d E' x = optI d E x := by
  cases x with
  | none => rfl
  | some y => simp only [optI, h y (by simp)]
theorem opN_env (h : ∀ x ∈ o.op.operands, E'.ev x = E.ev x) : opN X E' lk n o = opN X E lk n o := by
  obtain ⟨dst, op, type, pos, after, guard⟩ := o
  have parts : ∀ ps : Array (Nat × Operand), (∀ x ∈ (ps.toList.map (·.2)).toArray, E'.ev x = E.ev x) → (ps.toList.map fun p => (p.1, E'.ev p.2)) = ps.toList.map fun p => (p.1, E.ev p.2) := fun ps hp =>
    List.map_congr_left fun p hm => by rw [hp p.2 (by simp; exact ⟨p.1, by simpa using hm⟩)]
  cases op <;> simp only [Op.operands] at h <;> simp only [opN]
  case build t ps => rw [parts ps h]
  case buildSlice t k ps => rw [parts ps h]
  case makeFunc fn first caps =>
    cases fn <;> try rfl
    cases he : first.isEmpty with
    | false => simp only [he, cond_false]
    | true =>
      simp only [he, cond_true]
      exact congrArg (fun m => Option.bind m _) (mapM_env (l := caps.toList) fun x hx => h x (by rw [Array.mem_append]; exact .inr (by simpa using hx)))
  case slice t x lo hi mx =>
    rw [h x (by simp), optI_env (x := lo) fun y hy => h y (by simp [hy]), optI_env (x := mx) fun y hy => h y (by simp [hy])]
    have h2 : ∀ d, optI d E' hi = optI d E hi := fun d => optI_env fun y hy => h y (by simp [hy])
    simp only [h2]
    cases mx with
    | none =>
      split
      · rfl
      · rfl
      · split
        · rename_i he; cases he
        · rfl
      · rfl
      · rfl
    | some m =>
      have h3 : ∀ d, optI d E' (some m) = optI d E (some m) := fun d => optI_env fun y hy => h y (by simp at hy; simp [hy])
      split
      · rfl
      · simp only [h3]
      · split
        · rename_i he
          cases he
          simp only [h3]
        · rfl
      · simp only [h3]
      · rfl
  case call c =>
    obtain ⟨ca, ar, ty⟩ := c
    have ha : ∀ x ∈ ar, E'.ev x = E.ev x := fun x hx => h x (by simp [Call.operands, hx])
    cases ca with
    | invoke r m => rfl
    | value f =>
      have hf : E'.ev f = E.ev f := h f (by simp [Call.operands])
      have hm : ar.toList.map E'.ev = ar.toList.map E.ev := List.map_congr_left fun x hx => ha x (by simpa using hx)
      simp only [hf, hm]
    | builtin b =>
      have h0 : ∀ x ∈ ar.toList, E'.ev x = E.ev x := fun x hx => ha x (by simpa using hx)
      cases b <;> try rfl
      all_goals
        generalize ar.toList = l at h0
        match l, h0 with
        | [], _ => rfl
        | [x], h0 => simp only [h0 x (by simp)]
        | [x, y], h0 =>
          first
            | (simp only [h0 x (by simp), h0 y (by simp)]; done)
            | (generalize ty.toList = tl
               match tl with
               | [] => rfl
               | [_] => rfl
               | [t, u] => simp only [h0 x (by simp), h0 y (by simp)]
               | _ :: _ :: _ :: _ => rfl)
        | _ :: _ :: _ :: _, _ => rfl
  all_goals (first | rfl | (simp_all; done))

/-- what is there for these is there -/
def Up (lk lk' : Nat → Option AObj) (ids : List Nat) : Prop := ∀ o ∈ ids, ∀ y, lk o = some y → lk' o = some y
theorem Up.app {a b : List Nat} (h : Up lk lk' (a ++ b)) : Up lk lk' a ∧ Up lk lk' b := ⟨fun o ho => h o (List.mem_append_left _ ho), fun o ho => h o (List.mem_append_right _ ho)⟩
theorem snap1_up {t : Ty} {c : CV} {x : t.den} (h : Up lk lk' c.ids) (hs : snap1 lk t c = some x) : snap1 lk' t c = some x := by
  unfold snap1 at hs ⊢
  split at hs
  · exact hs
  · exact hs
  · exact hs
  · exact hs
  · exact hs
  · rename_i p
    split at hs
    · rename_i t' e' xs hp
      rw [h p (by simp [CV.ids]) _ hp]
      exact hs
    · cases hs
  · cases hs
theorem snapN_up : ∀ {t : Ty} {cs r : List CV} {x : t.den}, Up lk lk' (cs.flatMap CV.ids) → snapN lk t cs = some (x, r) → snapN lk' t cs = some (x, r) ∧ Up lk lk' (r.flatMap CV.ids)
  | .pair a b, cs, r, x, h, hs => by
    simp only [snapN, Option.bind_eq_some_iff, Option.some.injEq] at hs ⊢
    obtain ⟨p, hp, q, hq, he⟩ := hs
    obtain ⟨h1, h2⟩ := snapN_up h hp
    obtain ⟨h3, h4⟩ := snapN_up h2 hq
    simp only [Prod.mk.injEq] at he
    obtain ⟨h5, rfl⟩ := he
    exact ⟨⟨p, h1, q, h3, by simp [h5]⟩, h4⟩
  | .int k, c :: cs, r, x, h, hs => by
    simp only [snapN, Option.map_eq_some_iff, Prod.mk.injEq] at hs ⊢
    obtain ⟨y, hy, rfl, rfl⟩ := hs
    rw [List.flatMap_cons] at h
    exact ⟨⟨y, snap1_up h.app.1 hy, rfl, rfl⟩, h.app.2⟩
  | .bool, c :: cs, r, x, h, hs => by
    simp only [snapN, Option.map_eq_some_iff, Prod.mk.injEq] at hs ⊢
    obtain ⟨y, hy, rfl, rfl⟩ := hs
    rw [List.flatMap_cons] at h
    exact ⟨⟨y, snap1_up h.app.1 hy, rfl, rfl⟩, h.app.2⟩
  | .str, c :: cs, r, x, h, hs => by
    simp only [snapN, Option.map_eq_some_iff, Prod.mk.injEq] at hs ⊢
    obtain ⟨y, hy, rfl, rfl⟩ := hs
    rw [List.flatMap_cons] at h
    exact ⟨⟨y, snap1_up h.app.1 hy, rfl, rfl⟩, h.app.2⟩
  | .sl _ _, c :: cs, r, x, h, hs => by
    simp only [snapN, Option.map_eq_some_iff, Prod.mk.injEq] at hs ⊢
    obtain ⟨y, hy, rfl, rfl⟩ := hs
    rw [List.flatMap_cons] at h
    exact ⟨⟨y, snap1_up h.app.1 hy, rfl, rfl⟩, h.app.2⟩
  | .int _, [], _, _, _, hs => by simp [snapN] at hs
  | .bool, [], _, _, _, hs => by simp [snapN] at hs
  | .str, [], _, _, _, hs => by simp [snapN] at hs
  | .sl _ _, [], _, _, _, hs => by simp [snapN] at hs
theorem cells_ids {v : AV} {cs : List CV} (h : v.cells? = some cs) : v.ids = cs.flatMap CV.ids := by
  cases v <;> simp [AV.cells?] at h <;> subst h <;> simp [AV.ids]
theorem argCells_ids {b : Bool} {v : AV} {cs : List CV} (h : argCells b v = some cs) : v.ids = cs.flatMap CV.ids := by
  unfold argCells at h
  split at h
  · obtain rfl : _ = cs := by simpa using h
    rfl
  · obtain rfl : _ = cs := by simpa using h
    simp [AV.ids]
  · cases h
theorem buildElems_up {e : Ty} : ∀ {l : List (Nat × AV)} {i : Nat} {xs : List e.den}, Up lk lk' (l.flatMap fun p => p.2.ids) → buildElems lk e i l = some xs → buildElems lk' e i l = some xs
  | [], _, _, _, hs => hs
  | (j, v) :: l, i, xs, h, hs => by
    rw [List.flatMap_cons] at h
    simp only [buildElems, cond_none, Option.bind_eq_some_iff] at hs ⊢
    obtain ⟨hi, cs, hcs, ⟨x, r⟩, hx, hr⟩ := hs
    refine ⟨hi, cs, hcs, (x, r), (snapN_up (cells_ids hcs ▸ h.app.1) hx).1, ?_⟩
    simp only at hr ⊢
    split at hr
    · simp only [Option.map_eq_some_iff] at hr ⊢
      obtain ⟨ys, hy, rfl⟩ := hr
      exact ⟨ys, buildElems_up h.app.2 hy, rfl⟩
    · cases hr
theorem snapArgs_up : ∀ {ps : List Par} {vs : List AV} {vd : ValD ps}, Up lk lk' (vs.flatMap AV.ids) → snapArgs lk ps vs = some vd → snapArgs lk' ps vs = some vd
  | [], [], _, _, hs => hs
  | ⟨.val, agg, t⟩ :: r, v :: vs, vd, h, hs => by
    rw [List.flatMap_cons] at h
    simp only [snapArgs, Option.bind_eq_some_iff] at hs ⊢
    obtain ⟨cs, hcs, ⟨x, rr⟩, hx, hr⟩ := hs
    refine ⟨cs, hcs, (x, rr), (snapN_up (argCells_ids hcs ▸ h.app.1) hx).1, ?_⟩
    simp only at hr ⊢
    split at hr
    · simp only [Option.bind_eq_some_iff] at hr ⊢
      obtain ⟨y, hy, he⟩ := hr
      exact ⟨y, snapArgs_up h.app.2 hy, he⟩
    · cases hr
  | ⟨.own, _, _⟩ :: r, _ :: vs, vd, h, hs => snapArgs_up (ps := r) (by rw [List.flatMap_cons] at h; exact h.app.2) hs
  | ⟨.mutp _, _, _⟩ :: r, _ :: vs, vd, h, hs => snapArgs_up (ps := r) (by rw [List.flatMap_cons] at h; exact h.app.2) hs
  | [], _ :: _, _, _, hs => by simp [snapArgs] at hs
  | ⟨.val, _, _⟩ :: _, [], _, _, hs => by simp [snapArgs] at hs
  | ⟨.own, _, _⟩ :: _, [], _, _, hs => by simp [snapArgs] at hs
  | ⟨.mutp _, _, _⟩ :: _, [], _, _, hs => by simp [snapArgs] at hs
theorem loadV_up {P : Program} {t : TypeId} {v : AV} {out : Out} (h : Up lk lk' v.ids) (hs : loadV P lk t v = some out) : loadV P lk' t v = some out := by
  unfold loadV at hs ⊢
  split at hs
  · rename_i sz p i off hsz
    cases hp : lk p with
    | none => rw [hp] at hs; cases hs
    | some y => rw [hp] at hs; rw [h p (by simp [AV.ids, CV.ids]) _ hp]; exact hs
  · exact hs
  · cases hs
theorem lenV_up {v : AV} {m : Int} (h : Up lk lk' v.ids) (hs : lenV lk v = some m) : lenV lk' v = some m := by
  unfold lenV at hs ⊢
  split at hs
  · exact hs
  · exact hs
  · exact hs
  · exact hs
  · rename_i p
    cases hp : lk p with
    | none => rw [hp] at hs; cases hs
    | some y => rw [hp] at hs; simp only [h p (by simp [AV.ids, CV.ids]) _ hp]; exact hs
  · cases hs
theorem srcOf_up {P : Program} {e : Ty} {u : TypeId} {v : AV} {ys : List e.den} (h : Up lk lk' v.ids) (hs : srcOf P lk e u v = some ys) : srcOf P lk' e u v = some ys := by
  unfold srcOf at hs ⊢
  split at hs
  · exact snap1_up h hs
  · exact hs
  · cases hs
theorem convV_up {P : Program} {s d : TypeId} {v : AV} {out : Out} (h : Up lk lk' v.ids) (hs : convV P lk s d v = some out) : convV P lk' s d v = some out := by
  unfold convV at hs ⊢
  split at hs
  · exact hs
  · exact hs
  · split at hs
    · simp only [Option.map_eq_some_iff] at hs ⊢
      obtain ⟨xs, hx, rfl⟩ := hs
      refine ⟨xs, ?_, rfl⟩
      unfold bytesOf at hx ⊢
      split at hx
      · exact snap1_up h hx
      · cases hx
    · cases hs
  · cases hs
theorem opN_up {out : Out} (h : ∀ x ∈ o.op.operands, Up lk lk' (E.ev x).ids) (hs : opN X E lk n o = some out) : opN X E lk' n o = some out := by
  obtain ⟨dst, op, type, pos, after, guard⟩ := o
  cases op <;> simp only [Op.operands] at h <;> simp only [opN] at hs ⊢
  case load t x => exact loadV_up (h x (by simp)) hs
  case convert s d x => exact convV_up (h x (by simp)) hs
  case buildSlice t k ps =>
    cases hk : Nat.beq k 0 with
    | true => rw [hk] at hs; exact hs
    | false =>
      rw [hk] at hs
      simp only [cond_false, Option.bind_eq_some_iff, cond_none] at hs ⊢
      obtain ⟨el, hel, e, he, hc, hs⟩ := hs
      refine ⟨el, hel, e, he, hc, ?_⟩
      cases hf : e.flat with
      | false => rw [hf] at hs; exact hs
      | true =>
        rw [hf] at hs
        simp only [cond_true, Option.bind_eq_some_iff] at hs ⊢
        obtain ⟨xs, hx, hs⟩ := hs
        refine ⟨xs, buildElems_up (fun i hi => ?_) hx, hs⟩
        simp only [List.mem_flatMap, List.mem_map] at hi
        obtain ⟨_, ⟨p, hp, rfl⟩, hi⟩ := hi
        exact h p.2 (by simp; exact ⟨p.1, by simpa using hp⟩) i hi
  case slice t x lo hi mx =>
    have hx := h x (by simp)
    generalize E.ev x = v at hs hx
    split at hs
    · exact hs
    · exact hs
    · rename_i p
      cases hp : lk p with
      | none => rw [hp] at hs; cases mx <;> cases hs
      | some y => rw [hp] at hs; simp only [hx p (by simp [AV.ids, CV.ids]) _ hp]; exact hs
    · exact hs
    · cases hs
  case indexAddr t x ix =>
    have hx := h x (by simp)
    generalize E.ev x = v at hs hx
    generalize E.ev ix = u at hs
    split at hs
    · exact hs
    · rename_i el p k i h1
      cases hp : lk p with
      | none => rw [hp] at hs; cases hs
      | some y => rw [hp] at hs; simp only [hx p (by simp [AV.ids, CV.ids]) _ hp]; exact hs
    · cases hs
  case makeFunc fn first caps => cases fn <;> exact hs
  case call c =>
    obtain ⟨ca, ar, ty⟩ := c
    have ha : ∀ x ∈ ar.toList, Up lk lk' (E.ev x).ids := fun x hx => h x (by simp [Call.operands] at hx ⊢; exact .inr hx)
    simp only at hs ⊢
    cases ca with
    | invoke r m => exact hs
    | value f =>
      simp only at hs ⊢
      split at hs
      · rename_i fi
        unfold callV at hs ⊢
        split at hs
        · simp only [cond_none, Option.bind_eq_some_iff] at hs ⊢
          obtain ⟨hr, t, ht, vd, hv, hs⟩ := hs
          refine ⟨hr, t, ht, vd, snapArgs_up (fun i hi => ?_) hv, hs⟩
          simp only [List.mem_flatMap, List.mem_map] at hi
          obtain ⟨_, ⟨x, hx, rfl⟩, hi⟩ := hi
          exact ha x hx i hi
        · cases hs
      · cases hs
    | builtin b =>
      cases b <;> try exact hs
      case len =>
        simp only at hs ⊢
        generalize ar.toList = l at hs ha
        split at hs
        · rename_i x
          split at hs
          · simp only [cond_none, Option.bind_eq_some_iff] at hs ⊢
            obtain ⟨hk, m, hm, hs⟩ := hs
            exact ⟨hk, m, lenV_up (ha x (by simp)) hm, hs⟩
          · cases hs
        · cases hs
      case append =>
        simp only at hs ⊢
        generalize ar.toList = l at hs ha
        split at hs
        · rename_i x y t u _
          split at hs
          · simp only [Option.bind_eq_some_iff, cond_none] at hs ⊢
            obtain ⟨e, he, i, hi, hc, ys, hy, hs⟩ := hs
            exact ⟨e, he, i, hi, hc, ys, srcOf_up (ha y (by simp)) hy, hs⟩
          · cases hs
        · cases hs
  all_goals exact hs
end Go.Proofs.YtglbaihiibdemaaGreatDoor.Am
