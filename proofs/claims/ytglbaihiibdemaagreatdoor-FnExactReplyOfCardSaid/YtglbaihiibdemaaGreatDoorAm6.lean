/- What is proved here: each operation that changes nothing that is there comes, in the model, to what the evaluator says. -/
import Derived.Test.YtglbaihiibdemaaGreatDoorAm5
namespace Go.Proofs.YtglbaihiibdemaaGreatDoor.Am
open Go
set_option autoImplicit false
variable {X : Ctx} {mine : Nat → Prop} {w w' : World} {g g' : Gh} {lk lk' : Nat → Option AObj} {E : Env} {a : Act} {n : Nat} {o : Oper}

/-- What the outside of a call sees: only what is the call's own has turned. -/
structure Mine (mine : Nat → Prop) (w w' : World) : Prop where
  os : w'.os = w.os
  tape : w'.tape = w.tape
  output : w'.output = w.output
  size : w.heap.size ≤ w'.heap.size
  block : ∀ k, k < w.heap.size → ¬ mine k → w'.heap[k]? = w.heap[k]?
theorem Mine.refl (w : World) : Mine mine w w := ⟨rfl, rfl, rfl, Nat.le_refl _, fun _ _ _ => rfl⟩
theorem Mine.trans {w'' : World} (h : Mine mine w w') (k : Mine mine w' w'') : Mine mine w w'' :=
  ⟨k.os.trans h.os, k.tape.trans h.tape, k.output.trans h.output, Nat.le_trans h.size k.size, fun i hi hm => (k.block i (Nat.lt_of_lt_of_le hi h.size) hm).trans (h.block i hi hm)⟩
theorem Kept.toMine {W : List Nat} (h : Kept W w w') (hW : ∀ b ∈ W, mine b) : Mine mine w w' := ⟨h.os, h.tape, h.output, h.size, fun i hi hm => h.block i hi fun hx => hm (hW i hx)⟩
structure Good (X : Ctx) (mine : Nat → Prop) (w : World) (g : Gh) (lk : Nat → Option AObj) (E : Env) (a : Act) : Prop where
  hr : HRel X mine w g lk
  live : ∀ o, lk o ≠ some .gone
  env : ∀ t, AVRel w (okB w g lk) g lk (E.get t) (a.tmps.getD t undef)
  glob : ∀ u, Mine mine w u → X.G.ok u
  mine : ∀ b, w.heap.size ≤ b → mine b
def Done (X : Ctx) (mine : Nat → Prop) (w : World) (g : Gh) (lk : Nat → Option AObj) (a : Act) (n : Nat) (o : Oper) (v : AV) (N : List AObj) : Prop :=
  ∃ v' w' g', (execOp a.eval o).run X.P w = .ok (.value v') w' ∧ Grows X mine w w' g g' lk (lkAdd lk n N) ∧ AVRel w' (okB w' g' (lkAdd lk n N)) g' (lkAdd lk n N) v v'
def Out.gives : Out → AV → List AObj → Prop
  | .pure v N, u, M => u = v ∧ M = N
  | .guard b v N, u, M => b = true ∧ u = v ∧ M = N
  | .pick b v y, u, M => u = (if b then v else y) ∧ M = []
  | .call _ x f, u, M => ∃ c, x = some c ∧ (u, M) = f c
theorem Good.ev (h : Good X mine w g lk E a) (x : Operand) : AVRel w (okB w g lk) g lk (E.ev x) (a.eval x) := ev_rel h.env x
theorem Good.still (h : Good X mine w g lk E a) : Grows X mine w w g g lk (lkAdd lk n []) := by rw [lkAdd_nil]; exact Grows.refl X mine w g lk h.hr.dead h.live
theorem Good.reads (h : Good X mine w g lk E a) : Reads w (okB w g lk) g lk (fun b => b < w.heap.size) :=
  ⟨fun _ hb => hb.1, fun o _ _ _ hx => ⟨h.hr.obj o _ hx, fun b hb => (h.hr.own o _ hx b hb).1⟩⟩
theorem done_quiet (h : Good X mine w g lk E a) {v : AV} {v' : Value} (h1 : (execOp a.eval o).run X.P w = .ok (.value v') w) (h2 : AVRel w (okB w g lk) g lk v v') : Done X mine w g lk a n o v [] :=
  ⟨v', w, g, h1, h.still, by rw [lkAdd_nil]; exact h2⟩
/-- a new variable -/
theorem done_box (h : Good X mine w g lk E a) (hfree : lk n = none ∧ ¬ g.dead n) {tid : Nat} {cs : List CV} {vs : List Value} (hv : All2 (CVRel w (okB w g lk) g lk) cs vs)
    (h1 : (execOp a.eval o).run X.P w = .ok (.value (.pointer (some ⟨w.heap.size, 0, none⟩))) (w.alloc (.cells vs.toArray tid))) : Done X mine w g lk a n o (.c (.ptr n 0 0)) [.box tid cs] := by
  refine ⟨_, _, g.add n [(.pointer (some ⟨w.heap.size, 0, none⟩), [w.heap.size])], h1, ?_, ?_⟩
  · refine Grows.add (Kept.alloc _ _ _) rfl (fun i hi => ?_) h.hr.dead h.live (fun p hp b hb => ?_) ⟨by simp, by simp, trivial⟩ fun i x p hx hp hval hfp m => ?_
    · obtain rfl : i = 0 := by simpa using hi
      exact hfree
    · obtain rfl : p = _ := by simpa using hp
      obtain rfl : b = w.heap.size := by simpa using hb
      exact ⟨Nat.le_refl _, by simp, h.mine _ (Nat.le_refl _)⟩
    · obtain rfl : i = 0 := by have := (List.getElem?_eq_some_iff.1 hx).1; simpa using this
      obtain rfl : x = _ := by simpa using hx.symm
      obtain rfl : p = _ := by simpa using hp.symm
      exact ⟨w.heap.size, vs.toArray, hval, heap_alloc_new _ _, by simpa using hv.imp fun _ _ _ _ h => m.cv h, hfp⟩
  · refine ⟨⟨_, rfl⟩, .inr ⟨.box tid cs, by simp [lkAdd], fun _ => ⟨w.heap.size, by simp [Gh.add], rfl⟩⟩⟩
/-- a new array -/
theorem done_arr (h : Good X mine w g lk E a) (hfree : lk n = none ∧ ¬ g.dead n) {tid : Nat} {e : Ty} {xs : List e.den} {v' : Value} {S : List Nat} (hk : Kept [] w w') (ho : Own w' (.sl tid e) xs [v'] S) (hS : ∀ b ∈ S, w.heap.size ≤ b)
    (h1 : (execOp a.eval o).run X.P w = .ok (.value v') w') : Done X mine w g lk a n o (.c (.ref n)) [.arr tid e xs] := by
  refine ⟨_, _, g.add n [(v', S)], h1, ?_, ?_⟩
  · refine Grows.add hk rfl (fun i hi => ?_) h.hr.dead h.live (fun p hp b hb => ?_) ⟨ho.nodup, by simp, trivial⟩ fun i x p hx hp hval hfp m => ?_
    · obtain rfl : i = 0 := by simpa using hi
      exact hfree
    · obtain rfl : p = _ := by simpa using hp
      exact ⟨hS b hb, ho.lt b hb, h.mine _ (hS b hb)⟩
    · obtain rfl : i = 0 := by have := (List.getElem?_eq_some_iff.1 hx).1; simpa using this
      obtain rfl : x = _ := by simpa using hx.symm
      obtain rfl : p = _ := by simpa using hp.symm
      simp only [ObjRel, hval, hfp]
      exact ho
  · exact ⟨ho.one _ (by simp), .inr ⟨tid, e, xs, by simp [lkAdd], by simp [Gh.add]⟩⟩

/-! ### moves, variables -/
theorem move_sound (h : Good X mine w g lk E a) {x : Operand} (ho : o.op = .move x ∨ o.op = .assign x) : Done X mine w g lk a n o (E.ev x) [] := by
  refine done_quiet h (v' := a.eval x) ?_ (h.ev x)
  rcases ho with ho | ho <;> simp [execOp, ho]
theorem pick_sound (h : Good X mine w g lk E a) {c x y : Operand} {t : Bool} (ho : o.op = .pick c x y) (hc : E.ev c = .c (.bool t)) : Done X mine w g lk a n o (if t then E.ev x else E.ev y) [] := by
  have h1 := h.ev c
  rw [hc] at h1
  have h1 : a.eval c = .bool t := h1
  cases t
  · exact done_quiet h (v' := a.eval y) (by simp [execOp, ho, h1, asBool]) (h.ev y)
  · exact done_quiet h (v' := a.eval x) (by simp [execOp, ho, h1, asBool]) (h.ev x)
theorem zero_rel {t : TypeId} {cs : List CV} (h : zeroCells X.P t = some cs) (w : World) (ok : Nat → Prop) (g : Gh) (lk : Nat → Option AObj) : ∃ i z, X.P.info? t = some i ∧ i.zero = some z ∧ All2 (CVRel w ok g lk) cs z.cells.toList := by
  simp only [zeroCells, Option.bind_eq_some_iff] at h
  obtain ⟨i, hi, z, hz, hc⟩ := h
  exact ⟨i, z, hi, hz, cells_rel (ofVal_rel z) hc⟩
theorem alloc_sound (h : Good X mine w g lk E a) (hfree : lk n = none ∧ ¬ g.dead n) {t : TypeId} (ho : o.op = .alloc t) {cs : List CV} (hz : zeroCells X.P t = some cs) : Done X mine w g lk a n o (.c (.ptr n 0 0)) [.box t cs] := by
  obtain ⟨i, z, hi, hz, hc⟩ := zero_rel hz w (okB w g lk) g lk
  refine done_box h hfree hc ?_
  simp [execOp, ho, Instr.alloc, zeroValue, typeInfo, hi, hz, newVar, newRow]
theorem box_sound (h : Good X mine w g lk E a) (hfree : lk n = none ∧ ¬ g.dead n) {t : TypeId} {x : Operand} (ho : o.op = .box t x) {cs : List CV} (hz : (E.ev x).cells? = some cs) : Done X mine w g lk a n o (.c (.ptr n 0 0)) [.box t cs] := by
  refine done_box h hfree (cells_rel (h.ev x) hz) ?_
  simp [execOp, ho, Instr.box, newVar, newRow]
structure CtxOk (X : Ctx) : Prop where
  bld : (X.P.info? X.bld).map (·.zero) = some (some (.agg #[.pointer none, .slice none 0 0]))
theorem bld_sound (hX : CtxOk X) (h : Good X mine w g lk E a) (hfree : lk n = none ∧ ¬ g.dead n) (ho : o.op = .alloc X.bld) : Done X mine w g lk a n o (.c (.ptr n 0 0)) [.bld []] := by
  have hb := hX.bld
  cases hi : X.P.info? X.bld with
  | none => simp [hi] at hb
  | some i =>
    have hz : i.zero = some (.agg #[.pointer none, .slice none 0 0]) := by simpa [hi] using hb
    refine ⟨.pointer (some ⟨w.heap.size, 0, none⟩), w.alloc (.cells #[.pointer none, .slice none 0 0] X.bld), g.add n [(.pointer (some ⟨w.heap.size, 0, none⟩), [w.heap.size])], ?_, Grows.add (w' := w.alloc (.cells #[.pointer none, .slice none 0 0] X.bld)) (Kept.alloc _ _ _) rfl (fun i hi => ?_) h.hr.dead h.live (fun p hp b hb => ?_) ⟨by simp, by simp, trivial⟩ fun i x p hx hp hval hfp m => ?_, ?_⟩
    · simp [execOp, ho, Instr.alloc, zeroValue, typeInfo, hi, hz, newVar, newRow, Value.cells]
    · obtain rfl : i = 0 := by simpa using hi
      exact hfree
    · obtain rfl : p = _ := by simpa using hp
      obtain rfl : b = w.heap.size := by simpa using hb
      exact ⟨Nat.le_refl _, by simp, h.mine _ (Nat.le_refl _)⟩
    · obtain rfl : i = 0 := by have := (List.getElem?_eq_some_iff.1 hx).1; simpa using this
      obtain rfl : x = _ := by simpa using hx.symm
      obtain rfl : p = _ := by simpa using hp.symm
      exact ⟨w.heap.size, _, _, hval, .inl rfl, heap_alloc_new _ _, World.ownsRowF_nil _ _ _ _, by rw [hfp]; simp [Value.ownBlock], by rw [hfp]; simp⟩
    · exact ⟨⟨_, rfl⟩, .inr ⟨.bld [], by simp [lkAdd], fun _ _ => by simp [Gh.add]⟩⟩

/-! ### loads -/
theorem getD_get {α : Type} {xs : List α} {i : Nat} {d : α} (h : i < xs.length) : xs[i]? = some (xs.getD i d) := by
  simp [List.getD, List.getElem?_eq_getElem h]
theorem drop_take_get {α : Type} {cs : List α} {off sz : Nat} {j : Nat} {u : α} (h : ((cs.drop off).take sz)[j]? = some u) : cs[off + j]? = some u := by
  rw [List.getElem?_take] at h
  split at h
  · simpa using h
  · cases h
theorem cond_some {α : Type _} {b : Bool} {x y : α} : (cond b (some x) none = some y) ↔ (b = true ∧ x = y) := by cases b <;> simp
theorem cond_none {α : Type _} {b : Bool} {x : Option α} {y : α} : (cond b x none = some y) ↔ (b = true ∧ x = some y) := by cases b <;> simp
theorem take_len {α : Type} {cs : List α} {off sz : Nat} (h : off + sz ≤ cs.length) : ((cs.drop off).take sz).length = sz := by simp; omega
/-- a load of cells that are known -/
theorem done_load (h : Good X mine w g lk E a) {t : TypeId} {x : Operand} (ho : o.op = .load t x) {ad : Addr} (hx : a.eval x = .pointer (some ad)) (hs : ad.spot = none) {cs : List CV} {vs : List Value} (hc : All2 (CVRel w (okB w g lk) g lk) cs vs)
    (hsz : tsize X.P t = some cs.length) (h1 : (tagg X.P t || Nat.beq cs.length 1) = true) (hcell : ∀ (j : Nat) (u : Value), vs[j]? = some u → w.cell? ⟨ad.block, ad.off + j, none⟩ = some u) :
    Done X mine w g lk a n o (mkAV (tagg X.P t) cs) [] := by
  rw [hc.len] at hsz h1
  obtain ⟨v, h2, h3, h4⟩ := run_load_cells (w := w) hsz h1 hs hcell
  refine done_quiet h (v' := v) ?_ (mkAV_rel hc h3 h4)
  simp [execOp, ho, Instr.loadAt, Instr.sureAddr, hx, h2]
theorem load_sound (h : Good X mine w g lk E a) {t : TypeId} {x : Operand} (ho : o.op = .load t x) {out : Out} (hl : loadV X.P lk t (E.ev x) = some out) {v : AV} {N : List AObj} (hg : out.gives v N) : Done X mine w g lk a n o v N := by
  have hx := h.ev x
  unfold loadV at hl
  split at hl
  · rename_i sz oo i off hsz he
    rw [he] at hx
    obtain ⟨h1, h2⟩ := hx
    rcases h2 with h2 | ⟨y, h2, h3⟩
    · rw [h.hr.dead _ h2] at hl
      simp at hl
    · rw [h2] at hl
      cases y with
      | box tid cs =>
        simp only [cond_some, Bool.and_eq_true, Nat.ble_eq, Nat.beq_eq] at hl
        obtain ⟨⟨⟨hle, rfl⟩, hone⟩, rfl⟩ := hl
        obtain ⟨rfl, rfl⟩ := hg
        obtain ⟨b, hgv, hv⟩ := h3 rfl
        obtain ⟨b', cur, hgv', hb, hcs, _⟩ := h.hr.obj _ _ h2
        rw [hgv] at hgv'
        obtain rfl : b = b' := by simpa using hgv'
        have hl := take_len hle
        refine done_load h ho hv rfl (vs := (cur.toList.drop off).take sz) ((hcs.drop off).take sz) (by rw [hl]; exact hsz) (by rw [hl]; exact hone) fun j u hu => ?_
        rw [cell_row hb]
        exact drop_take_get hu
      | arr tid e xs =>
        simp only [cond_some, Bool.and_eq_true, Nat.ble_eq] at hl
        obtain ⟨⟨hle, hone⟩, rfl⟩ := hl
        obtain ⟨rfl, rfl⟩ := hg
        obtain ⟨hi, b, nn, cc, hgv, hv⟩ := h3
        have hown := h.hr.obj _ _ h2
        have hrep : Rep w (fun _ => True) (.sl tid e) xs [g.val oo] := hown.rep (fun _ _ => trivial)
        have hokn : Own w (.sl tid e) xs [g.val oo] (g.fp oo) := hown
        rcases hokn with ⟨_, _, hnil, _⟩ | ⟨gb, cap, cur, css, S', e1, hgb, _, _, _, htk, hrows, hfp, hnd⟩
        · subst hnil; simp at hi
        · obtain ⟨c, T, hc, hT, hget⟩ := hrows.get (fun x c S h => Own.len h) i _ (getD_get (d := e.dflt) hi)
          have hbe : gb = b := by rw [hgv] at e1; have := e1.symm; simp at this; exact this.1
          subst hbe
          have hcr : Rep w (okB w g lk) e (xs.getD i e.dflt) c := hc.rep fun b' hb' => by
            have hm : b' ∈ g.fp oo := by rw [hfp]; exact List.mem_cons_of_mem _ (hT _ hb')
            refine ⟨(h.hr.own _ _ h2 b' hm).1, fun o' x' hx' hb2 => ?_⟩
            by_cases heq : o' = oo
            · subst heq
              rw [h2] at hx'
              obtain rfl : x' = _ := by simpa using hx'.symm
              rw [hfp] at hb2 hnd
              simp [tops] at hb2
              subst hb2
              exact (List.nodup_cons.1 hnd).1 (hT _ hb')
            · exact h.hr.dis o' oo x' _ heq hx' h2 b' (tops_sub _ hb2) hm
          have hl := take_len (cs := cells e (xs.getD i e.dflt)) (off := off) (sz := sz) (by rw [cells_len]; exact hle)
          refine done_load h ho hv rfl (vs := (c.drop off).take sz) (((cells_of_rep hcr).drop off).take sz) (by rw [hl]; exact hsz) (by rw [hl]; exact hone) fun j u hu => ?_
          have h5 := hget (off + j) u (drop_take_get hu)
          rw [← htk, List.getElem?_take] at h5
          split at h5
          · rw [cell_row hgb]
            simpa [Nat.add_assoc] using h5
          · cases h5
      | bld s => simp at hl
      | gone => simp at hl
  · rename_i sz u y hsz he
    rw [he] at hx
    obtain ⟨ad, c, hv, hs, hok, hr, hc⟩ := hx
    simp only [cond_some, Bool.and_eq_true, Nat.beq_eq] at hl
    obtain ⟨⟨rfl, hone⟩, rfl⟩ := hl
    obtain ⟨rfl, rfl⟩ := hg
    exact done_load h ho hv hs (cells_of_rep hr) (by rw [cells_len]; exact hsz) (by rw [cells_len]; exact hone) hc
  · cases hl
end Go.Proofs.YtglbaihiibdemaaGreatDoor.Am
