/- What is proved here: the step in which objects are used up, new ones stand, and some boxes are left with something else. -/
import Derived.Test.YtglbaihiibdemaaGreatDoorAm18
namespace Go.Proofs.YtglbaihiibdemaaGreatDoor.Am
open Go
set_option autoImplicit false
variable {X : Ctx} {mine : Nat → Prop} {w w' w'' : World} {g g' g'' : Gh} {lk lk' lk'' : Nat → Option AObj} {E E' : Env} {a : Act} {n : Nat} {o : Oper}

def Gh.mix (g : Gh) (n : Nat) (L : List (Value × List Nat)) (D : List Nat) : Gh := { g.add n L with dead := fun o => g.dead o ∨ o ∈ D }
def lkMix (lk : Nat → Option AObj) (n : Nat) (N : List AObj) (D : List Nat) (rs : Nat → Option AObj) (o : Nat) : Option AObj :=
  if o ∈ D then none else match rs o with | some y => some y | none => lkAdd lk n N o
structure Mix (X : Ctx) (mine : Nat → Prop) (w w' : World) (g : Gh) (lk : Nat → Option AObj) (n : Nat) (N : List AObj) (L : List (Value × List Nat)) (D W : List Nat) (rs : Nat → Option AObj) : Prop where
  fresh : ∀ o, n ≤ o → lk o = none
  deadlt : ∀ o, g.dead o → o < n
  live : ∀ o, lk o ≠ some .gone
  used : ∀ o ∈ D, ∃ x, lk o = some x
  rsl : ∀ o y, rs o = some y → y ≠ .gone ∧ o ∉ D ∧ ∃ x, lk o = some x ∧ Alike x y ∧ ∀ b ∈ tops (g.fp o) y, b ∈ tops (g.fp o) x
  len : L.length = N.length
  kept : Kept W w w'
  wr : ∀ b ∈ W, ∃ o x, (o ∈ D ∨ (rs o).isSome = true) ∧ lk o = some x ∧ b ∈ tops (g.fp o) x
  fps : ∀ p ∈ L, ∀ b ∈ p.2, b < w'.heap.size ∧ mine b ∧ (w.heap.size ≤ b ∨ ∃ o2 x2, o2 ∈ D ∧ lk o2 = some x2 ∧ b ∈ g.fp o2)
  tps : ∀ (i : Nat) (x : AObj) (p : Value × List Nat), N[i]? = some x → L[i]? = some p → ∀ b ∈ tops p.2 x, w.heap.size ≤ b ∨ ∃ o2 x2, o2 ∈ D ∧ lk o2 = some x2 ∧ b ∈ tops (g.fp o2) x2
  dis : Disj (L.map (·.2))
  relN : Moves w w' (okB w g lk) (okB w' (g.mix n L D) (lkMix lk n N D rs)) g (g.mix n L D) lk (lkMix lk n N D rs) → ∀ (i : Nat) (x : AObj) (p : Value × List Nat), N[i]? = some x → L[i]? = some p → (g.mix n L D).val (n + i) = p.1 → (g.mix n L D).fp (n + i) = p.2 → lkMix lk n N D rs (n + i) = some x →
    ObjRel X w' (okB w' (g.mix n L D) (lkMix lk n N D rs)) (g.mix n L D) (lkMix lk n N D rs) (n + i) x
  relR : Moves w w' (okB w g lk) (okB w' (g.mix n L D) (lkMix lk n N D rs)) g (g.mix n L D) lk (lkMix lk n N D rs) → ∀ o y, rs o = some y → (g.mix n L D).val o = g.val o → (g.mix n L D).fp o = g.fp o → ObjRel X w' (okB w' (g.mix n L D) (lkMix lk n N D rs)) (g.mix n L D) (lkMix lk n N D rs) o y
section
variable {N : List AObj} {L : List (Value × List Nat)} {D W : List Nat} {rs : Nat → Option AObj}
theorem Mix.old (m : Mix X mine w w' g lk n N L D W rs) {o : Nat} (h : o < n) : (g.mix n L D).val o = g.val o ∧ (g.mix n L D).fp o = g.fp o ∧ lkAdd lk n N o = lk o := by
  have hn : ¬ n ≤ o := by omega
  simp [Gh.mix, Gh.add, lkAdd, hn]
theorem Mix.lt (m : Mix X mine w w' g lk n N L D W rs) {o : Nat} {x : AObj} (h : lk o = some x) : o < n := by
  rcases Nat.lt_or_ge o n with h1 | h1
  · exact h1
  · rw [m.fresh o h1] at h; cases h
theorem Mix.rsLt (m : Mix X mine w w' g lk n N L D W rs) {o : Nat} {y : AObj} (h : rs o = some y) : o < n := by
  obtain ⟨_, _, x, hx, _⟩ := m.rsl o y h
  exact m.lt hx
/-- what an object is that stands -/
theorem Mix.cases (m : Mix X mine w w' g lk n N L D W rs) {o : Nat} {x : AObj} (h : lkMix lk n N D rs o = some x) :
    o ∉ D ∧ ((rs o = some x ∧ (g.mix n L D).fp o = g.fp o ∧ o < n) ∨ (rs o = none ∧ lk o = some x ∧ o < n) ∨ (rs o = none ∧ ∃ p, n ≤ o ∧ N[o - n]? = some x ∧ L[o - n]? = some p ∧ (g.mix n L D).val o = p.1 ∧ (g.mix n L D).fp o = p.2)) := by
  unfold lkMix at h
  split at h
  · cases h
  · rename_i hD
    refine ⟨hD, ?_⟩
    cases hr : rs o with
    | some y =>
      rw [hr] at h
      have hlt := m.rsLt hr
      exact .inl ⟨h, (m.old hlt).2.1, hlt⟩
    | none =>
      rw [hr] at h
      rcases lkAdd_new h with h1 | ⟨h1, h2⟩
      · exact .inr (.inl ⟨rfl, h1, m.lt h1⟩)
      · have hl : o - n < L.length := by rw [m.len]; exact (List.getElem?_eq_some_iff.1 h2).1
        have hp : L[o - n]? = some L[o - n] := List.getElem?_eq_getElem hl
        have := Gh.add_val_new (g := g) h1 hp
        exact .inr (.inr ⟨rfl, _, h1, h2, hp, this.1, this.2⟩)
theorem Mix.turn (m : Mix X mine w w' g lk n N L D W rs) (r : HRel X mine w g lk) : Turn X mine W (fun o => o ∈ D ∨ (rs o).isSome = true ∨ n ≤ o) w w' g (g.mix n L D) lk (lkMix lk n N D rs) := by
  have newOf : ∀ o x, (o ∈ D ∨ (rs o).isSome = true ∨ n ≤ o) → lkMix lk n N D rs o = some x → o ∉ D ∧ ((rs o = some x ∧ (g.mix n L D).fp o = g.fp o ∧ o < n) ∨ (∃ p, n ≤ o ∧ N[o - n]? = some x ∧ L[o - n]? = some p ∧ (g.mix n L D).val o = p.1 ∧ (g.mix n L D).fp o = p.2)) := by
    intro o x hc hx
    obtain ⟨h1, h2⟩ := m.cases hx
    refine ⟨h1, ?_⟩
    rcases h2 with h2 | ⟨h2, h3, h4⟩ | ⟨_, h2⟩
    · exact .inl h2
    · rcases hc with hc | hc | hc
      · exact absurd hc h1
      · rw [h2] at hc; cases hc
      · omega
    · exact .inr h2
  have t0 : Turn0 mine W (fun o => o ∈ D ∨ (rs o).isSome = true ∨ n ≤ o) w w' g (g.mix n L D) lk (lkMix lk n N D rs) := by
    refine ⟨m.kept, fun b hb => ?_, rfl, fun o ho => ?_, r.dead, fun o ho => ?_, fun o x ho hx => ?_, fun o _ hd => .inl hd, fun o x ho hx b hb => ?_, fun o x ho hx b hb => ?_, fun o o' x x' hne ho ho' hx hx' b hb hb' => ?_, m.live⟩
    · obtain ⟨o, x, h1, h2, h3⟩ := m.wr b hb
      exact ⟨o, x, h1.elim .inl fun h => .inr (.inl h), h2, h3⟩
    · simp only [not_or, Bool.not_eq_true, Option.isSome_eq_false_iff, Option.isNone_iff_eq_none] at ho
      obtain ⟨h1, h2, h3⟩ := ho
      obtain ⟨h4, h5, h6⟩ := m.old (o := o) (by omega)
      exact ⟨by simp only [lkMix, h1, h2, if_false, h6], h4, h5, by simp [Gh.mix, h1]⟩
    · rcases ho with ho | ho
      · have hlt := m.deadlt o ho
        have h0 := r.dead o ho
        unfold lkMix
        split
        · rfl
        · cases hr : rs o with
          | some y => obtain ⟨_, _, x, hx, _⟩ := m.rsl o y hr; rw [h0] at hx; cases hx
          | none => simp only; rw [(m.old hlt).2.2, h0]
      · simp [lkMix, ho]
    · rcases ho with ho | ho | ho
      · exact .inl (.inr ho)
      · obtain ⟨y, hy⟩ := Option.isSome_iff_exists.1 ho
        obtain ⟨_, hD, x', hx', hal, _⟩ := m.rsl o y hy
        rw [hx] at hx'
        obtain rfl : x = x' := by simpa using hx'
        exact .inr ⟨(m.old (m.rsLt hy)).1, y, by simp [lkMix, hD, hy], hal⟩
      · rw [m.fresh o ho] at hx; cases hx
    · obtain ⟨_, h⟩ := newOf o x ho hx
      rcases h with ⟨h1, h2, h3⟩ | ⟨p, h1, h2, h3, h4, h5⟩
      · rw [h2] at hb
        obtain ⟨_, _, x', hx', _⟩ := m.rsl o x h1
        have := r.own o x' hx' b hb
        exact ⟨Nat.lt_of_lt_of_le this.1 m.kept.size, this.2, .inr ⟨o, x', ho, hx', hb⟩⟩
      · rw [h5] at hb
        obtain ⟨a1, a2, a3⟩ := m.fps p (List.mem_of_getElem? h3) b hb
        exact ⟨a1, a2, a3.imp id fun ⟨o2, x2, k1, k2, k3⟩ => ⟨o2, x2, .inl k1, k2, k3⟩⟩
    · obtain ⟨_, h⟩ := newOf o x ho hx
      rcases h with ⟨h1, h2, h3⟩ | ⟨p, h1, h2, h3, h4, h5⟩
      · rw [h2] at hb
        obtain ⟨_, _, x', hx', _, htp⟩ := m.rsl o x h1
        exact .inr ⟨o, x', ho, hx', htp b hb⟩
      · rw [h5] at hb
        exact (m.tps _ x p h2 h3 b hb).imp id fun ⟨o2, x2, k1, k2, k3⟩ => ⟨o2, x2, .inl k1, k2, k3⟩
    · obtain ⟨hD, h⟩ := newOf o x ho hx
      obtain ⟨hD', h'⟩ := newOf o' x' ho' hx'
      have cross : ∀ (q q' : Nat) (z : AObj) (p : Value × List Nat), q ∉ D → rs q = some z → p ∈ L → b ∈ g.fp q → b ∉ p.2 := by
        intro q q' z p hqD hq hp hbq hbp
        obtain ⟨_, _, y, hy, _⟩ := m.rsl q z hq
        rcases (m.fps p hp b hbp).2.2 with h | ⟨o2, x2, k1, k2, k3⟩
        · have := (r.own q y hy b hbq).1; omega
        · exact r.dis q o2 y x2 (fun e => hqD (e ▸ k1)) hy k2 b hbq k3
      rcases h with ⟨h1, h2, h3⟩ | ⟨p, h1, h2, h3, h4, h5⟩ <;> rcases h' with ⟨k1, k2, k3⟩ | ⟨p', k1, k2, k3, k4, k5⟩
      · rw [h2] at hb
        rw [k2] at hb'
        obtain ⟨_, _, y, hy, _⟩ := m.rsl o x h1
        obtain ⟨_, _, y', hy', _⟩ := m.rsl o' x' k1
        exact r.dis o o' y y' hne hy hy' b hb hb'
      · rw [h2] at hb
        rw [k5] at hb'
        exact cross o o' x p' hD h1 (List.mem_of_getElem? k3) hb hb'
      · rw [k2] at hb'
        rw [h5] at hb
        exact cross o' o x' p hD' k1 (List.mem_of_getElem? h3) hb' hb
      · rw [h5] at hb
        rw [k5] at hb'
        exact m.dis.get (o - n) (o' - n) p.2 p'.2 (by omega) (by simp [h3]) (by simp [k3]) b hb hb'
  refine { t0 with rel := fun o x ho hx => ?_ }
  obtain ⟨hD, h⟩ := newOf o x ho hx
  rcases h with ⟨h1, h2, h3⟩ | ⟨p, h1, h2, h3, h4, h5⟩
  · exact m.relR t0.moves o x h1 (m.old h3).1 (m.old h3).2.1
  · have e : n + (o - n) = o := by omega
    have := m.relN t0.moves (o - n) x p h2 h3 (by rw [e]; exact h4) (by rw [e]; exact h5) (by rw [e]; exact hx)
    rwa [e] at this
theorem Mix.dead (m : Mix X mine w w' g lk n N L D W rs) : ∀ p, (g.mix n L D).dead p → g.dead p ∨ (lk p).isSome = true := by
  intro p hp
  rcases hp with hp | hp
  · exact .inl hp
  · obtain ⟨x, hx⟩ := m.used p hp
    exact .inr (by rw [hx]; rfl)
end
/-- one new slice, that lies in what was used up, or in a new block -/
theorem turn_arr {H H1 : Heap} (h : Good X mine w g (look H) E a) (hdl : ∀ p, g.dead p → p < H.length) {D W : List Nat} (hlen : H1.length = H.length) (hlk : ∀ q, look H1 q = if q ∈ D then none else look H q) (hD : ∀ q ∈ D, ∃ x, look H q = some x) {tid : Nat} {e : Ty} {xs : List e.den} {v : Value} {S : List Nat}
    (hk : Kept W w w') (hW : ∀ b ∈ W, ∃ q x, q ∈ D ∧ look H q = some x ∧ b ∈ tops (g.fp q) x) (ho : Own w' (.sl tid e) xs [v] S) (hS : ∀ b ∈ S, w.heap.size ≤ b ∨ ∃ q x, q ∈ D ∧ look H q = some x ∧ b ∈ g.fp q) (hT : ∀ b ∈ S.take 1, w.heap.size ≤ b ∨ ∃ q x, q ∈ D ∧ look H q = some x ∧ b ∈ tops (g.fp q) x) :
    ∃ g', To X mine w w' g g' (look H) (look (H1 ++ [.arr tid e xs])) ∧ AVRel w' (okB w' g' (look (H1 ++ [.arr tid e xs]))) g' (look (H1 ++ [.arr tid e xs])) (.c (.ref H1.length)) v ∧ ∀ p, g'.dead p → ¬ g.dead p → (look H p).isSome = true := by
  have hmix : lkMix (look H) H.length [.arr tid e xs] D (fun _ => none) = look (H1 ++ [.arr tid e xs]) := by
    funext q
    rw [look_append H1 _ (by simp)]
    simp only [lkMix, lkAdd, hlen, hlk]
    by_cases hq : q ∈ D
    · obtain ⟨x, hx⟩ := hD q hq
      have : ¬ H.length ≤ q := by have := (look_lt hx).1; omega
      simp [hq, this]
    · simp [hq]
  have m : Mix X mine w w' g (look H) H.length [.arr tid e xs] [(v, S)] D W (fun _ => none) := by
    refine ⟨fun q hq => look_none hq, hdl, h.live, hD, fun q y hy => (by cases hy), rfl, hk, fun b hb => ?_, fun p hp b hb => ?_, fun i x p hx hp b hb => ?_, ⟨ho.nodup, by simp, trivial⟩, fun _ i x p hx hp hval hfp _ => ?_, fun _ q y hy => (by cases hy)⟩
    · obtain ⟨q, x, h1, h2, h3⟩ := hW b hb
      exact ⟨q, x, .inl h1, h2, h3⟩
    · obtain rfl : p = _ := by simpa using hp
      refine ⟨ho.lt b hb, ?_, hS b hb⟩
      rcases hS b hb with h1 | ⟨q, x, _, h2, h3⟩
      · exact h.mine b h1
      · exact (h.hr.own q x h2 b h3).2
    · obtain rfl : i = 0 := by have := (List.getElem?_eq_some_iff.1 hx).1; simpa using this
      obtain rfl : x = _ := by simpa using hx.symm
      obtain rfl : p = _ := by simpa using hp.symm
      exact hT b hb
    · obtain rfl : i = 0 := by have := (List.getElem?_eq_some_iff.1 hx).1; simpa using this
      obtain rfl : x = _ := by simpa using hx.symm
      obtain rfl : p = _ := by simpa using hp.symm
      simp only [ObjRel, hval, hfp]
      exact ho
  have t := m.turn h.hr
  have hd := m.dead
  rw [hmix] at t
  refine ⟨_, t.to h.hr, ⟨ho.one _ (by simp), .inr ⟨tid, e, xs, ?_, ?_⟩⟩, fun p h1 h2 => (hd p h1).resolve_left h2⟩
  · rw [look_append H1 _ (by simp)]
    simp [lkAdd]
  · simp [Gh.mix, Gh.add, hlen]
end Go.Proofs.YtglbaihiibdemaaGreatDoor.Am
