/- What is proved here: what a whole state stands for; one operation in the order of the text. -/
import Derived.Test.YtglbaihiibdemaaGreatDoorAm21
namespace Go.Proofs.YtglbaihiibdemaaGreatDoor.Am
open Go
set_option autoImplicit false
variable {X : Ctx} {mine : Nat → Prop} {w w' w'' : World} {g g' g'' : Gh} {lk lk' lk'' : Nat → Option AObj} {E E' : Env} {a : Act} {n : Nat} {o : Oper}

/-! ### heaps don't shrink -/
theorem take1_len {t : Ty} {H H' : Heap} {c : CV} {x : t.den} (h : take1 H t c = some (x, H')) : H'.length = H.length := by
  unfold take1 at h
  split at h
  · rw [cond_some] at h
    simp only [Prod.mk.injEq] at h
    rw [← h.2.2]
  · simp only [Option.some.injEq, Prod.mk.injEq] at h
    rw [← h.2]
  · simp only [Option.some.injEq, Prod.mk.injEq] at h
    rw [← h.2]
  · simp only [Option.some.injEq, Prod.mk.injEq] at h
    rw [← h.2]
  · split at h
    · rw [cond_none] at h
      simp only [Option.map_eq_some_iff, Prod.mk.injEq] at h
      obtain ⟨_, _, _, _, rfl⟩ := h
      simp
    · cases h
  · cases h
theorem takeN_len : ∀ {t : Ty} {H H' : Heap} {cs r : List CV} {x : t.den}, takeN t H cs = some (x, r, H') → H'.length = H.length
  | .pair a b, H, H', cs, r, x, h => by
    simp only [takeN, Option.bind_eq_some_iff, Option.some.injEq] at h
    obtain ⟨⟨p1, p2, p3⟩, hp, ⟨q1, q2, q3⟩, hq, he⟩ := h
    simp only [Prod.mk.injEq] at he hq
    obtain ⟨_, _, rfl⟩ := he
    exact (takeN_len hq).trans (takeN_len hp)
  | .int k, H, H', c :: cs, r, x, h => by
    simp only [takeN, Option.map_eq_some_iff, Prod.mk.injEq] at h
    obtain ⟨⟨y, H1⟩, hy, _, _, rfl⟩ := h
    exact take1_len hy
  | .bool, H, H', c :: cs, r, x, h => by
    simp only [takeN, Option.map_eq_some_iff, Prod.mk.injEq] at h
    obtain ⟨⟨y, H1⟩, hy, _, _, rfl⟩ := h
    exact take1_len hy
  | .str, H, H', c :: cs, r, x, h => by
    simp only [takeN, Option.map_eq_some_iff, Prod.mk.injEq] at h
    obtain ⟨⟨y, H1⟩, hy, _, _, rfl⟩ := h
    exact take1_len hy
  | .sl _ _, H, H', c :: cs, r, x, h => by
    simp only [takeN, Option.map_eq_some_iff, Prod.mk.injEq] at h
    obtain ⟨⟨y, H1⟩, hy, _, _, rfl⟩ := h
    exact take1_len hy
  | .int _, _, _, [], _, _, h => by simp [takeN] at h
  | .bool, _, _, [], _, _, h => by simp [takeN] at h
  | .str, _, _, [], _, _, h => by simp [takeN] at h
  | .sl _ _, _, _, [], _, _, h => by simp [takeN] at h
theorem upd_len : ∀ {t : Ty} {x y : t.den} {off : Nat} {H H' : Heap} {c : CV}, upd t x off H c = some (y, H') → H'.length = H.length
  | .pair p q, x, y, off, H, H', c, h => by
    simp only [upd] at h
    cases hb : Nat.blt off p.n with
    | true =>
      rw [hb, cond_true] at h
      simp only [Option.map_eq_some_iff, Prod.mk.injEq] at h
      obtain ⟨⟨z, H1⟩, hz, _, rfl⟩ := h
      exact upd_len hz
    | false =>
      rw [hb, cond_false] at h
      simp only [Option.map_eq_some_iff, Prod.mk.injEq] at h
      obtain ⟨⟨z, H1⟩, hz, _, rfl⟩ := h
      exact upd_len hz
  | .int _, _, _, _, _, _, _, h => take1_len h
  | .bool, _, _, _, _, _, _, h => take1_len h
  | .str, _, _, _, _, _, _, h => take1_len h
  | .sl _ _, _, _, _, _, _, _, h => take1_len h
theorem takeElems_len {e : Ty} : ∀ {m : Nat} {H H' : Heap} {cs : List CV} {xs : List e.den}, takeElems e m H cs = some (xs, H') → H'.length = H.length
  | 0, H, H', [], xs, h => by
    simp only [takeElems, Option.some.injEq, Prod.mk.injEq] at h
    rw [← h.2]
  | m + 1, H, H', cs, xs, h => by
    simp only [takeElems, Option.bind_eq_some_iff, Option.some.injEq] at h
    obtain ⟨⟨p1, p2, p3⟩, hp, ⟨q1, q3⟩, hq, he⟩ := h
    simp only [Prod.mk.injEq] at he hq
    obtain ⟨_, rfl⟩ := he
    exact (takeElems_len hq).trans (takeN_len hp)
  | 0, _, _, _ :: _, _, h => by simp [takeElems] at h
theorem takeS_len {el : Nat} {e : Ty} {H H' : Heap} {x : AV} {xs : List e.den} (h : takeS el e H x = some (xs, H')) : H'.length = H.length := by
  unfold takeS at h
  split at h
  · simp only [Option.some.injEq, Prod.mk.injEq] at h
    rw [← h.2]
  · exact take1_len h
  · split at h
    · rw [cond_none] at h
      have := takeElems_len h.2
      simpa using this
    · cases h
  · cases h
theorem opM_len {H : Heap} {out : OutM} (hl : opM X E H o = some out) {v : AV} {H' : Heap} (hg : out.gives v H') : H.length ≤ H'.length := by
  unfold opM at hl
  split at hl
  · unfold storeM at hl
    split at hl
    · rw [cond_none] at hl
      have hl := hl.2
      split at hl
      · rw [cond_some] at hl
        obtain ⟨_, rfl⟩ := hl
        obtain ⟨_, rfl⟩ := hg
        simp
      · rename_i cs _ _ tid e xs _
        cases hc : (Nat.beq _ 0 && Nat.beq _ e.n) with
        | true =>
          rw [hc, cond_true] at hl
          simp only [Option.bind_eq_some_iff] at hl
          obtain ⟨⟨x', r, H1⟩, hx, hl⟩ := hl
          simp only at hl
          split at hl
          · obtain rfl : _ = out := by simpa using hl
            obtain ⟨_, rfl⟩ := hg
            have := takeN_len hx
            simp at this ⊢
            omega
          · cases hl
        | false =>
          rw [hc, cond_false] at hl
          split at hl
          · simp only [cond_none, Option.bind_eq_some_iff, Option.some.injEq] at hl
            obtain ⟨_, ⟨y, H1⟩, hy, rfl⟩ := hl
            obtain ⟨_, rfl⟩ := hg
            have := upd_len hy
            simp at this ⊢
            omega
          · cases hl
      · cases hl
    · cases hl
  · split at hl
    · split at hl
      · simp only [Option.bind_eq_some_iff] at hl
        obtain ⟨e, _, ⟨xs, H1⟩, hx, hl⟩ := hl
        obtain rfl : _ = out := by simpa using hl
        obtain ⟨_, rfl⟩ := hg
        have := takeS_len hx
        simp
        omega
      · cases hl
    · cases hl
  · split at hl
    · split at hl
      · unfold appendM at hl
        simp only [Option.bind_eq_some_iff, cond_none] at hl
        obtain ⟨el, _, e, _, i, _, _, hl⟩ := hl
        cases hf : e.flat with
        | true =>
          rw [hf, cond_true] at hl
          simp only [Option.bind_eq_some_iff] at hl
          obtain ⟨ys, _, ⟨xs, H1⟩, hx, hl⟩ := hl
          obtain rfl : _ = out := by simpa using hl
          obtain ⟨_, _, rfl⟩ := hg
          have := takeS_len hx
          simp
          omega
        | false =>
          rw [hf, cond_false] at hl
          simp only [cond_none, Option.bind_eq_some_iff] at hl
          obtain ⟨_, ⟨ys, H0⟩, hy, ⟨xs, H1⟩, hx, hl⟩ := hl
          obtain rfl : _ = out := by simpa using hl
          obtain ⟨_, _, rfl⟩ := hg
          have := takeS_len hx
          have := takeS_len hy
          simp at *
          omega
      · cases hl
    · split at hl
      · unfold callM at hl
        split at hl
        · split at hl
          · split at hl
            · obtain rfl : _ = out := by simpa using hl
              obtain ⟨_, _, rfl⟩ := hg
              simp
            · cases hl
          · cases hl
        · split at hl
          · split at hl
            · obtain rfl : _ = out := by simpa using hl
              obtain ⟨_, rfl⟩ := hg
              simp
            · cases hl
          · cases hl
        · cases hl
      · cases hl
    · cases hl
  · cases hl

/-! ### states -/
/-- the frames around -/
def Around (w : World) (ok : Nat → Prop) (g : Gh) (lk : Nat → Option AObj) (Es : List Env) (outs : List (Array Value)) : Prop := All2 (fun E tm => ∀ t, AVRel w ok g lk (Env.get E t) (Array.getD tm t undef)) Es outs
structure HoldsG (X : Ctx) (mine : Nat → Prop) (w0 : World) (outs : List (Array Value)) (mvs : List Value) (outer : List Env) (muts : List CV) (H : Heap) (w : World) (g : Gh) : Prop where
  hr : HRel X mine w g (look H)
  mineS : ∀ b, w.heap.size ≤ b → mine b
  dlt : ∀ p, g.dead p → p < H.length
  outs : Around w (okB w g (look H)) g (look H) outer outs
  muts : All2 (CVRel w (okB w g (look H)) g (look H)) muts mvs
  kept : Mine mine w0 w
  glob : ∀ u, Mine mine w0 u → X.G.ok u
structure HoldsA (X : Ctx) (mine : Nat → Prop) (w0 : World) (outs : List (Array Value)) (mvs : List Value) (m : Nat) (s : Cfg) (a : Act) (w : World) (g : Gh) : Prop extends HoldsG X mine w0 outs mvs s.outer s.muts s.heap w g where
  env : ∀ t, AVRel w (okB w g (look s.heap)) g (look s.heap) (s.env.get t) (a.tmps.getD t undef)
  size : a.tmps.size = m
  defers : a.defers = []
def Holds (X : Ctx) (mine : Nat → Prop) (w0 : World) (outs : List (Array Value)) (mvs : List Value) (m : Nat) (s : Cfg) (a : Act) (w : World) : Prop := ∃ g, HoldsA X mine w0 outs mvs m s a w g
section
variable {w0 : World} {outs : List (Array Value)} {mvs : List Value} {m : Nat} {s : Cfg}
theorem look_live (H : Heap) (p : Nat) : look H p ≠ some .gone := fun h => (look_lt h).2.1 rfl
theorem HoldsA.good (h : HoldsA X mine w0 outs mvs m s a w g) : Good X mine w g (look s.heap) s.env a := ⟨h.hr, look_live _, h.env, fun u hu => h.glob u (h.kept.trans hu), h.mineS⟩
theorem Around.moves {ok ok' : Nat → Prop} (mv : Moves w w' ok ok' g g' lk lk') {Es : List Env} (h : Around w ok g lk Es outs) : Around w' ok' g' lk' Es outs := h.imp fun _ _ _ _ hx t => mv.av (hx t)
theorem HoldsG.go {outer : List Env} {muts : List CV} {H H' : Heap} (h : HoldsG X mine w0 outs mvs outer muts H w g) (t : To X mine w w' g g' (look H) (look H')) (hd : ∀ p, g'.dead p → p < H'.length) : HoldsG X mine w0 outs mvs outer muts H' w' g' :=
  ⟨t.hrel, fun b hb => h.mineS b (Nat.le_trans t.mine.size hb), hd, h.outs.moves t.moves, h.muts.imp fun _ _ _ _ hx => t.moves.cv hx, h.kept.trans t.mine, h.glob⟩
theorem HoldsA.go {H' : Heap} (h : HoldsA X mine w0 outs mvs m s a w g) (t : To X mine w w' g g' (look s.heap) (look H')) (hd : ∀ p, g'.dead p → p < H'.length) {v : AV} {v' : Value} (hv : AVRel w' (okB w' g' (look H')) g' (look H') v v') {d : Option Tmp} (hdst : ∀ u, d = some u → u < m)
    (hE : ∀ t, E'.get t = (s.env.put d v).get t) : HoldsA X mine w0 outs mvs m ⟨E', s.outer, s.muts, H'⟩ (a.put d v') w' g' := by
  have hgd := h.good.go t hv (d := d) (fun u hu => by rw [h.size]; exact hdst u hu) hE
  refine { h.toHoldsG.go t hd with env := hgd.env, size := by rw [put_size]; exact h.size, defers := ?_ }
  rw [← h.defers]
  cases d <;> rfl
theorem HoldsA.envEq (h : HoldsA X mine w0 outs mvs m s a w g) (hE : ∀ t, E'.get t = s.env.get t) : HoldsA X mine w0 outs mvs m ⟨E', s.outer, s.muts, s.heap⟩ a w g :=
  { h with env := fun t => by rw [hE]; exact h.env t }
theorem dead_of {H H' : Heap} (hdl : ∀ p, g.dead p → p < H.length) (hn : ∀ p, g'.dead p → ¬ g.dead p → (look H p).isSome = true) (hl : H.length ≤ H'.length) : ∀ p, g'.dead p → p < H'.length := by
  intro p hp
  by_cases h : g.dead p
  · exact Nat.lt_of_lt_of_le (hdl p h) hl
  · obtain ⟨x, hx⟩ := Option.isSome_iff_exists.1 (hn p hp h)
    exact Nat.lt_of_lt_of_le (look_lt hx).1 hl
theorem lkAdd_look {H N : Heap} (h : ∀ p, lkAdd (look H) H.length N p ≠ some .gone) : lkAdd (look H) H.length N = look (H ++ N) := by
  rw [look_append H N]
  intro x hx hgone
  subst hgone
  obtain ⟨i, hi, he⟩ := List.getElem_of_mem hx
  exact h (H.length + i) (lkAdd_at (by omega) (by simp [List.getElem?_eq_getElem hi, he]))
/-- an operation that changes nothing that is there -/
theorem opN_holds (hT : TabOk X) (h : HoldsA X mine w0 outs mvs m s a w g) {out : Out} (hl : opN X s.env (look s.heap) s.heap.length o = some out) {v : AV} {N : List AObj} (hg : out.gives v N) (hdst : ∀ u, o.dst = some u → u < m) {K : Act → World → Prop} {Q : Exit → Act → World → Prop}
    (hK : ∀ a' w', Holds X mine w0 outs mvs m ⟨s.env.put o.dst v, s.outer, s.muts, s.heap ++ N⟩ a' w' → K a' w') : o.wp X.P a w K Q := by
  refine opN_sound hT h.good hl hg (fun i _ => ⟨look_none (by omega), fun hd => by have := h.dlt _ hd; omega⟩) K Q fun v' w' g' hgr hv => ?_
  have hto := hgr.to h.hr
  rw [lkAdd_look hgr.live'] at hto hv
  exact hK _ _ ⟨g', h.go hto (fun p hp => by have := h.dlt p ((hgr.dead p).2 hp); simp; omega) hv hdst fun _ => rfl⟩
/-- an operation that changes what is there -/
theorem opM_holds (hT : TabOk X) (h : HoldsA X mine w0 outs mvs m s a w g) {out : OutM} (hl : opM X s.env s.heap o = some out) {v : AV} {H' : Heap} (hg : out.gives v H') (hdst : ∀ u, o.dst = some u → u < m) {K : Act → World → Prop} {Q : Exit → Act → World → Prop}
    (hK : ∀ a' w', Holds X mine w0 outs mvs m ⟨s.env.put o.dst v, s.outer, s.muts, H'⟩ a' w' → K a' w') : o.wp X.P a w K Q := by
  refine opM_sound hT h.good h.dlt hl hg K Q fun v' w' g' hto hv hd => ?_
  exact hK _ _ ⟨g', h.go hto (dead_of h.dlt hd (opM_len hl hg)) hv hdst fun _ => rfl⟩
end
theorem Out.run_some {R : Type} {H : Heap} {out : Out} {k : AV → Heap → Option R} {r : R} (h : out.run H k = some r) : ∃ v N, out.gives v N ∧ k v (H ++ N) = some r := by
  cases out with
  | pure v N => exact ⟨v, N, ⟨rfl, rfl⟩, h⟩
  | guard b v N =>
    simp only [Out.run, cond_none] at h
    exact ⟨v, N, ⟨h.1, rfl, rfl⟩, h.2⟩
  | pick b v u =>
    cases b with
    | true => exact ⟨v, [], ⟨rfl, rfl⟩, by simpa [Out.run] using h⟩
    | false => exact ⟨u, [], ⟨rfl, rfl⟩, by simpa [Out.run] using h⟩
  | call C x f =>
    simp only [Out.run, Option.bind_eq_some_iff] at h
    obtain ⟨c, hc, h⟩ := h
    exact ⟨(f c).1, (f c).2, ⟨c, hc, rfl⟩, h⟩
theorem OutM.run_some {R : Type} {out : OutM} {k : AV → Heap → Option R} {r : R} (h : out.run k = some r) : ∃ v H', out.gives v H' ∧ k v H' = some r := by
  cases out with
  | pure v N => exact ⟨v, N, ⟨rfl, rfl⟩, h⟩
  | guard b v N =>
    simp only [OutM.run, cond_none] at h
    exact ⟨v, N, ⟨h.1, rfl, rfl⟩, h.2⟩
  | call C x f =>
    simp only [OutM.run, Option.bind_eq_some_iff] at h
    obtain ⟨c, hc, h⟩ := h
    exact ⟨(f c).1, (f c).2, ⟨c, hc, rfl⟩, h⟩
end Go.Proofs.YtglbaihiibdemaaGreatDoor.Am
