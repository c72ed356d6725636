/- What is proved here: all operations that change what is there. -/
import Derived.Test.YtglbaihiibdemaaGreatDoorAm20
namespace Go.Proofs.YtglbaihiibdemaaGreatDoor.Am
open Go
set_option autoImplicit false
variable {X : Ctx} {mine : Nat → Prop} {w w' w'' : World} {g g' g'' : Gh} {lk lk' lk'' : Nat → Option AObj} {E E' : Env} {a : Act} {n : Nat} {o : Oper}

theorem append_exec {P : Program} {x y : Operand} {t u : TypeId} (ho : o.op = .call { callee := .builtin .append, args := #[x, y], argTypes := #[t, u] }) {v : Value} (h : (Builtin.append_ #[t, u] o.type #[a.eval x, a.eval y]).run P w = .ok v w') : (execOp a.eval o).run P w = .ok (.value v) w' := by
  simp [execOp, ho, resolve, invoke, builtin, h]
theorem doneM_value {H H' : Heap} {v : AV} {v' : Value} (h1 : (execOp a.eval o).run X.P w = .ok (.value v') w') (h2 : ∃ g', To X mine w w' g g' (look H) (look H') ∧ AVRel w' (okB w' g' (look H')) g' (look H') v v' ∧ ∀ p, g'.dead p → ¬ g.dead p → (look H p).isSome = true) : DoneM X mine w g (look H) a o v (look H') := by
  obtain ⟨g', h3, h4, h5⟩ := h2
  intro K Q hK
  unfold Oper.wp
  rw [h1, Oper.upon_value]
  exact hK v' w' g' h3 h4 h5
theorem zero_size {P : Program} {el : TypeId} {k : Nat} {i : TypeInfo} (hi : P.info? el = some i) (hz : (match zeroCells P el with | some z => Nat.beq z.length k | none => false) = true) (w : World) (g : Gh) (lk : Nat → Option AObj) : ∃ z, i.zero = some z ∧ z.cells.size = k := by
  cases hc : zeroCells P el with
  | none => rw [hc] at hz; cases hz
  | some zc =>
    rw [hc] at hz
    have hlen := Nat.eq_of_beq_eq_true hz
    simp only [zeroCells, Option.bind_eq_some_iff] at hc
    obtain ⟨i', hi', z, hz, hc⟩ := hc
    rw [hi] at hi'
    obtain rfl : i = i' := by simpa using hi'
    have := (cells_rel (ofVal_rel (w := w) (ok := fun _ => True) (g := g) (lk := lk) z) hc).len
    exact ⟨z, hz, by rw [← hlen]; simpa using this.symm⟩
theorem appendM_sound {H : Heap} (h : Good X mine w g (look H) E a) (hdl : ∀ p, g.dead p → p < H.length) {t u : TypeId} {x y : Operand} (ho : o.op = .call { callee := .builtin .append, args := #[x, y], argTypes := #[t, u] }) {out : OutM} (hl : appendM X H t u (E.ev x) (E.ev y) = some out) {v : AV} {H' : Heap} (hg : out.gives v H') : DoneM X mine w g (look H) a o v (look H') := by
  unfold appendM at hl
  simp only [Option.bind_eq_some_iff, cond_none, Bool.and_eq_true, beq_iff_eq] at hl
  obtain ⟨el, hel, e, he, i, hi, ⟨hs, hz⟩, hl⟩ := hl
  obtain ⟨z, hzi, hzl⟩ := zero_size hi hz w g (look H)
  have hisz := tsize_info hs hi
  have idH : ∀ q z, look H q = some z → look H q = some z := fun _ _ h => h
  cases hf : e.flat with
  | true =>
    rw [hf, cond_true] at hl
    simp only [Option.bind_eq_some_iff] at hl
    obtain ⟨ys, hy, ⟨xs, H1⟩, hx, hl⟩ := hl
    obtain rfl : _ = out := by simpa using hl
    obtain ⟨hb, rfl, rfl⟩ := hg
    simp only [Bool.and_eq_true, decide_eq_true_eq] at hb
    obtain ⟨news, h1, h2⟩ := srcOf_src h hf hy
    obtain ⟨D, S, us, hown⟩ := takeS_rel h.hr idH (h.ev x) hx
    obtain ⟨v', w', W, S', hrun, hk, hW, ho', hS', hT'⟩ := own_append (ty := o.type) (elem_run hel) hi hzi hzl hisz hown h1 h2 (by simp) (by simp) hb.1 hb.2
    refine doneM_value (append_exec ho hrun) (turn_arr h hdl us.len us.look us.live hk (fun b hb => us.top b (hW b hb)) ho' (fun b hb => ?_) fun b hb => (hT' b hb).imp id fun h => us.top b h)
    rcases hS' b hb with h3 | h3 | h3
    · exact .inl h3
    · exact .inr (us.fps b h3)
    · cases h3
  | false =>
    rw [hf, cond_false] at hl
    simp only [cond_none, Option.bind_eq_some_iff] at hl
    obtain ⟨hu, ⟨ys, H0⟩, hy, ⟨xs, H1⟩, hx, hl⟩ := hl
    obtain rfl : _ = out := by simpa using hl
    obtain ⟨hb, rfl, rfl⟩ := hg
    simp only [Bool.and_eq_true, decide_eq_true_eq] at hb
    obtain ⟨eu, hu⟩ := Option.isSome_iff_exists.1 hu
    obtain ⟨D1, S1, us1, hown1⟩ := takeS_rel h.hr idH (h.ev y) hy
    have hH0 : ∀ q z, look H0 q = some z → look H q = some z := fun q z hq => by
      rw [us1.look] at hq
      split at hq
      · cases hq
      · exact hq
    obtain ⟨D2, S2, us2, hown2⟩ := takeS_rel h.hr hH0 (h.ev x) hx
    obtain ⟨news, T, h1, h2, h3, h4⟩ := own_src hown1 (elem_run hu)
    have hsep : ∀ b ∈ T, b ∉ S2 := by
      intro b hb hb2
      obtain ⟨q1, x1, hq1, hl1, hf1⟩ := us1.fps b (h3 b hb)
      obtain ⟨q2, x2, hq2, hl2, hf2⟩ := us2.fps b hb2
      have hne : q1 ≠ q2 := by
        rintro rfl
        obtain ⟨z, hz⟩ := us2.live q1 hq2
        rw [us1.look, if_pos hq1] at hz
        cases hz
      exact h.hr.dis q1 q2 x1 x2 hne hl1 hl2 b hf1 hf2
    obtain ⟨v', w', W, S', hrun, hk, hW, ho', hS', hT'⟩ := own_append (ty := o.type) (elem_run hel) hi hzi hzl hisz hown2 h1 h2 h4 hsep hb.1 hb.2
    have top2 : ∀ b ∈ S2.take 1, ∃ q x, q ∈ D2 ++ D1 ∧ look H q = some x ∧ b ∈ tops (g.fp q) x := fun b hb => by
      obtain ⟨q, x, k1, k2, k3⟩ := us2.top b hb
      exact ⟨q, x, List.mem_append_left _ k1, k2, k3⟩
    refine doneM_value (append_exec ho hrun) (turn_arr (D := D2 ++ D1) h hdl (us2.len.trans us1.len) (fun q => ?_) (fun q hq => ?_) hk (fun b hb => top2 b (hW b hb)) ho' (fun b hb => ?_) fun b hb => (hT' b hb).imp id fun h => top2 b h)
    · rw [us2.look, us1.look]
      by_cases k1 : q ∈ D2 <;> by_cases k2 : q ∈ D1 <;> simp [k1, k2]
    · rcases List.mem_append.1 hq with hq | hq
      · obtain ⟨z, hz⟩ := us2.live q hq
        exact ⟨z, hH0 _ _ hz⟩
      · exact us1.live q hq
    · rcases hS' b hb with h5 | h5 | h5
      · exact .inl h5
      · obtain ⟨q, x, k1, k2, k3⟩ := us2.fps b h5
        exact .inr ⟨q, x, List.mem_append_left _ k1, k2, k3⟩
      · obtain ⟨q, x, k1, k2, k3⟩ := us1.fps b (h3 b h5)
        exact .inr ⟨q, x, List.mem_append_right _ k1, k2, k3⟩
/-- a slice that was just built becomes data -/
theorem assignM_sound {H : Heap} (h : Good X mine w g (look H) E a) (hdl : ∀ p, g.dead p → p < H.length) {x : Operand} (ho : o.op = .assign x) {el : Nat} {e : Ty} {xs : List e.den} {H1 : Heap} (hx : takeS el e H (E.ev x) = some (xs, H1)) : DoneM X mine w g (look H) a o (.c (.ref H1.length)) (look (H1 ++ [.arr el e xs])) := by
  obtain ⟨D, S, us, hown⟩ := takeS_rel h.hr (fun _ _ h => h) (h.ev x) hx
  refine doneM_value (v' := a.eval x) (w' := w) (by simp [execOp, ho]) (turn_arr h hdl us.len us.look us.live (Kept.refl [] w) (by simp) hown (fun b hb => .inr (us.fps b hb)) fun b hb => .inr (us.top b hb))
theorem bldAt_of {p : Nat} {s : List UInt8} {ok : Nat → Prop} (h : ObjRel X w ok g lk p (.bld s)) : ∃ b v, g.val p = .pointer (some ⟨b, 0, none⟩) ∧ BldAt X w b s v ∧ g.fp p = b :: v.ownBlock.toList := by
  obtain ⟨b, q, v, h1, h2, h3, h4, h5, h6⟩ := h
  exact ⟨b, v, h1, ⟨q, h2, h3, h4, h5 ▸ h6⟩, h5⟩
theorem rowF_lt {v : Value} {k : Nat} {xs : List Value} (h : w.ownsRowF 0 X.u8 1 v k xs) : ∀ q ∈ v.ownBlock.toList, q < w.heap.size := fun q hq => (h.lt q (by simpa using hq)).2
theorem bld_turn {H : Heap} (h : Good X mine w g (look H) E a) {p b : Nat} {s s' : List UInt8} {v v' : Value} (hp : look H p = some (.bld s)) (hv : g.val p = .pointer (some ⟨b, 0, none⟩)) (hf : g.fp p = b :: v.ownBlock.toList) (hk : Kept (b :: v.ownBlock.toList) w w') (hb : BldAt X w' b s' v') (hn : ∀ q ∈ v'.ownBlock.toList, q ∈ v.ownBlock.toList ∨ w.heap.size ≤ q) :
    ∃ g', To X mine w w' g g' (look H) (look (H.set p (.bld s'))) ∧ g'.dead = g.dead := by
  have hlen := (look_lt hp).1
  have hpl : ∀ q, look (H.set p (.bld s')) q = if p = q then some (.bld s') else look H q := fun q => look_set _ _ _ _ (by simp) hlen
  let g' : Gh := ⟨g.val, fun o => if o = p then b :: v'.ownBlock.toList else g.fp o, g.dead, g.mv⟩
  have hfp' : g'.fp p = b :: v'.ownBlock.toList := by simp [g']
  have hcase : ∀ q z, q = p → look (H.set p (.bld s')) q = some z → z = .bld s' := fun q z hq hz => by
    subst hq
    rw [hpl, if_pos rfl] at hz
    simpa using hz.symm
  have hblk : ∀ q ∈ g'.fp p, q < w'.heap.size ∧ (w.heap.size ≤ q ∨ q ∈ g.fp p) := by
    intro q hq
    rw [hfp'] at hq
    obtain ⟨r, _, hb1, hb2, _⟩ := hb
    rcases List.mem_cons.1 hq with rfl | hq
    · exact ⟨(Array.getElem?_eq_some_iff.1 hb1).1, .inr (by rw [hf]; exact List.mem_cons_self)⟩
    · refine ⟨rowF_lt hb2 q hq, ?_⟩
      rcases hn q hq with h1 | h1
      · exact .inr (by rw [hf]; exact List.mem_cons_of_mem _ h1)
      · exact .inl h1
  have t0 : Turn0 mine (b :: v.ownBlock.toList) (fun o => o = p) w w' g g' (look H) (look (H.set p (.bld s'))) := by
    refine ⟨hk, fun q hq => ⟨p, _, rfl, hp, by rw [hf]; exact hq⟩, rfl, fun q hq => ⟨by rw [hpl, if_neg fun e => hq e.symm], rfl, by simp [g', hq], Iff.rfl⟩, h.hr.dead, fun q hq => ?_, fun q z hq hz => ?_, fun q _ hd => hd, fun q z hq hz c hc => ?_, fun q z hq hz c hc => ?_, fun q q' z z' hne hq hq' => absurd (hq.trans hq'.symm) hne, h.live⟩
    · have h0 := h.hr.dead q hq
      rw [hpl, if_neg (fun e : p = q => by subst e; rw [hp] at h0; cases h0)]
      exact h0
    · subst hq
      rw [hp] at hz
      obtain rfl : _ = z := by simpa using hz
      exact .inr ⟨rfl, .bld s', by rw [hpl, if_pos rfl], ⟨s', rfl⟩⟩
    · subst hq
      obtain ⟨h1, h2⟩ := hblk c hc
      refine ⟨h1, ?_, h2.imp id fun h3 => ⟨q, _, rfl, hp, h3⟩⟩
      rcases h2 with h2 | h2
      · exact h.mine c h2
      · exact (h.hr.own q _ hp c h2).2
    · obtain rfl := hcase q z hq hz
      subst hq
      exact (hblk c (tops_sub c hc)).2.imp id fun h3 => ⟨q, _, rfl, hp, h3⟩
  have rel : ∀ q z, q = p → look (H.set p (.bld s')) q = some z → ObjRel X w' (okB w' g' (look (H.set p (.bld s')))) g' (look (H.set p (.bld s'))) q z := by
    intro q z hq hz
    obtain rfl := hcase q z hq hz
    subst hq
    obtain ⟨r, h1, h2, h3, h4⟩ := hb
    exact ⟨b, r, v', hv, h1, h2, h3, hfp', by rw [hfp']; exact h4⟩
  have t : Turn X mine (b :: v.ownBlock.toList) (fun o => o = p) w w' g g' (look H) (look (H.set p (.bld s'))) := { t0 with rel := rel }
  exact ⟨g', t.to h.hr, rfl⟩
theorem ptr_zero {p : Nat} {s : List UInt8} {u : Value} {ok : Nat → Prop} (hd : ∀ o, g.dead o → lk o = none) (hp : lk p = some (.bld s)) (h : CVRel w ok g lk (.ptr p 0 0) u) : u = g.val p := by
  rcases h.2 with h | ⟨x, h1, h2⟩
  · rw [hd _ h] at hp; cases hp
  · rw [hp] at h1
    obtain rfl := Option.some.inj h1
    exact h2 rfl rfl
theorem map_one {f : Operand → AV} {l : List Operand} {p : AV} (h : l.map f = [p]) : ∃ y, l = [y] := by
  cases l with
  | nil => cases h
  | cons y l =>
    cases l with
    | nil => exact ⟨y, rfl⟩
    | cons z l => simp at h
theorem map_two {f : Operand → AV} {l : List Operand} {p q : AV} (h : l.map f = [p, q]) : ∃ y z, l = [y, z] := by
  cases l with
  | nil => cases h
  | cons y l =>
    cases l with
    | nil => simp at h
    | cons z l =>
      cases l with
      | nil => exact ⟨y, z, rfl⟩
      | cons x l => simp at h
theorem callM_sound {H : Heap} (hT : TabOk X) (h : Good X mine w g (look H) E a) {c : Call} {x : Operand} {f : FuncId} (ho : o.op = .call c) (hc : c.callee = .value x) (hx : E.ev x = .fn f []) {out : OutM} (hl : callM X H f (c.args.toList.map E.ev) = some out) {v : AV} {H' : Heap} (hg : out.gives v H') : DoneM X mine w g (look H) a o v (look H') := by
  unfold callM at hl
  split at hl
  · rename_i hs
    obtain ⟨hW, hE⟩ := hT.bldW f hs
    split at hl
    · rename_i p s hargs
      split at hl
      · rename_i t hp
        obtain rfl : _ = out := by simpa using hl
        obtain ⟨hlen, rfl, rfl⟩ := hg
        simp only [decide_eq_true_eq] at hlen
        obtain ⟨y, z, hyz⟩ := map_two hargs
        rw [hyz] at hargs
        simp only [List.map_cons, List.map_nil, List.cons.injEq, and_true] at hargs
        have hy := h.ev y
        have hz := h.ev z
        rw [hargs.1] at hy
        rw [hargs.2] at hz
        have hz : a.eval z = .string ⟨⟨s⟩⟩ := hz
        have hy := ptr_zero (w := w) (ok := okB w g (look H)) h.hr.dead hp hy
        obtain ⟨b, v, hv, hb, hf⟩ := bldAt_of (h.hr.obj p _ hp)
        have hrun := call_run (w := w) hE ho hc (fn_val (hx ▸ h.ev x))
        intro K Q hK
        unfold Oper.wp
        rw [hrun, Oper.upon_enter]
        rw [show c.args.map a.eval = #[.pointer (some ⟨b, 0, none⟩), .string ⟨⟨s⟩⟩] from by
          apply Array.ext'
          rw [Array.toList_map, hyz]
          simp [hy, hv, hz]]
        refine (hW w b t s v hb hlen).mono fun e w1 he => ?_
        obtain ⟨rfl, hk, v', hb', hn⟩ := he
        obtain ⟨g', hto, hdead⟩ := bld_turn h hp hv hf hk hb' hn
        refine hK _ _ g' hto ⟨_, rfl, ⟨_, rfl, rfl⟩, ⟨_, rfl, rfl⟩, trivial⟩ fun q h1 h2 => absurd (hdead ▸ h1) h2
      · cases hl
    · cases hl
  · rename_i hs
    obtain ⟨hW, hE⟩ := hT.bldS f hs
    split at hl
    · rename_i p hargs
      split at hl
      · rename_i t hp
        obtain rfl : _ = out := by simpa using hl
        obtain ⟨rfl, hH⟩ := hg
        rw [hH]
        obtain ⟨y, hyz⟩ := map_one hargs
        rw [hyz] at hargs
        simp only [List.map_cons, List.map_nil, List.cons.injEq, and_true] at hargs
        have hy := h.ev y
        rw [hargs] at hy
        have hy := ptr_zero (w := w) (ok := okB w g (look H)) h.hr.dead hp hy
        obtain ⟨b, v, hv, hb, hf⟩ := bldAt_of (h.hr.obj p _ hp)
        have hrun := call_run (w := w) hE ho hc (fn_val (hx ▸ h.ev x))
        intro K Q hK
        unfold Oper.wp
        rw [hrun, Oper.upon_enter]
        rw [show c.args.map a.eval = #[.pointer (some ⟨b, 0, none⟩)] from by
          apply Array.ext'
          rw [Array.toList_map, hyz]
          simp [hy, hv]]
        refine (hW w b t v hb).mono fun e w1 he => ?_
        obtain ⟨rfl, hk, v', hb', hn⟩ := he
        obtain ⟨g', hto, hdead⟩ := bld_turn h hp hv hf hk hb' hn
        rw [show H.set p (.bld t) = H from by
          obtain ⟨h1, _, h2⟩ := look_lt hp
          apply List.ext_getElem?
          intro q
          rw [List.getElem?_set]
          by_cases e : p = q
          · subst e
            rw [if_pos rfl, if_pos h1, h2]
          · simp [e]] at hto
        refine hK _ _ g' hto rfl fun q h1 h2 => absurd (hdead ▸ h1) h2
      · cases hl
    · cases hl
  · cases hl
theorem opM_sound {H : Heap} (hT : TabOk X) (h : Good X mine w g (look H) E a) (hdl : ∀ p, g.dead p → p < H.length) {out : OutM} (hl : opM X E H o = some out) {v : AV} {H' : Heap} (hg : out.gives v H') : DoneM X mine w g (look H) a o v (look H') := by
  cases ho : o.op with
  | store t x y =>
    simp only [opM, ho] at hl
    exact store_sound h ho hl hg
  | assign x =>
    simp only [opM, ho] at hl
    split at hl
    · rename_i p m he
      split at hl
      · rename_i el cs hp
        simp only [Option.bind_eq_some_iff] at hl
        obtain ⟨e, hte, ⟨xs, H1⟩, hx, hl⟩ := hl
        obtain rfl : _ = out := by simpa using hl
        obtain ⟨rfl, rfl⟩ := hg
        exact assignM_sound h hdl ho (he ▸ hx)
      · cases hl
    · cases hl
  | call c =>
    obtain ⟨ca, ar, ty⟩ := c
    simp only [opM, ho] at hl
    split at hl
    · split at hl
      · rename_i x y t u hx hty
        obtain rfl : ar = #[x, y] := Array.ext' hx
        obtain rfl : ty = #[t, u] := Array.ext' hty
        exact appendM_sound h hdl ho hl hg
      · cases hl
    · split at hl
      · rename_i f hx
        exact callM_sound hT h ho rfl hx hl hg
      · cases hl
    · cases hl
  | _ => simp [opM, ho] at hl
end Go.Proofs.YtglbaihiibdemaaGreatDoor.Am
