/- What is proved here: small facts on values and data; loads. -/
import Derived.Test.YtglbaihiibdemaaGreatDoorAm4
import Derived.Laws.Slices
import Derived.Laws.Strings
import Derived.Laws.BytesArg
import Derived.Laws.Small
import Derived.Lib.ConvBytes
namespace Go.Proofs.YtglbaihiibdemaaGreatDoor.Am
open Go
set_option autoImplicit false
variable {w w' : World} {ok ok' : Nat → Prop} {g g' : Gh} {lk lk' : Nat → Option AObj}

theorem ofCell_rel : ∀ v : Value, ofCell v = .undef ∨ CVRel w ok g lk (ofCell v) v := by
  intro v
  unfold ofCell
  split <;> first | exact .inr rfl | exact .inr ⟨none, rfl⟩ | exact .inl rfl
theorem ofCells_rel : ∀ {l : List Value}, noUndef (l.map ofCell) = true → All2 (CVRel w ok g lk) (l.map ofCell) l
  | [], _ => trivial
  | v :: r, h => by
    simp only [List.map_cons, noUndef, Bool.and_eq_true, Bool.not_eq_true'] at h
    refine ⟨(ofCell_rel v).resolve_left fun e => ?_, ofCells_rel h.2⟩
    rw [e] at h
    exact absurd h.1 (by simp [CV.isUndef])
theorem ofVal_rel (v : Value) : AVRel w ok g lk (ofVal v) v := by
  unfold ofVal
  split
  · rename_i cs
    cases h : noUndef (cs.toList.map ofCell) with
    | true => exact ⟨cs, rfl, ofCells_rel h⟩
    | false => trivial
  · split
    · trivial
    · rename_i c hc heq
      exact (ofCell_rel v).resolve_left heq
theorem ev_rel {E : Env} {a : Act} (h : ∀ t, AVRel w ok g lk (E.get t) (a.tmps.getD t undef)) (x : Operand) : AVRel w ok g lk (E.ev x) (a.eval x) := by
  cases x with
  | tmp t => exact h t
  | const v => exact ofVal_rel v
  | global gl => trivial
  | func f => exact ⟨#[], rfl, trivial⟩
theorem cells_rel {x : AV} {v : Value} {cs : List CV} (h : AVRel w ok g lk x v) (hc : x.cells? = some cs) : All2 (CVRel w ok g lk) cs v.cells.toList := by
  cases x with
  | undef => simp [AV.cells?] at hc
  | skip => simp [AV.cells?] at hc
  | c y =>
    simp only [AV.cells?, Option.some.injEq] at hc
    subst hc
    have h1 := CVRel.one (show CVRel w ok g lk y v from h)
    cases v <;> first | exact ⟨h, trivial⟩ | (simp [Value.oneCell'] at h1)
  | mix ds =>
    simp only [AV.cells?, Option.some.injEq] at hc
    subst hc
    obtain ⟨vs, rfl, h⟩ := h
    exact h
  | tup l => simp [AV.cells?] at hc
  | fn f caps => simp [AV.cells?] at hc
theorem mkAV_rel {agg : Bool} {cs : List CV} {vs : List Value} (h : All2 (CVRel w ok g lk) cs vs) {v : Value} (h1 : agg = true → v = .agg vs.toArray) (h2 : agg = false → vs = [v]) : AVRel w ok g lk (mkAV agg cs) v := by
  cases agg with
  | true => exact ⟨vs.toArray, h1 rfl, by simpa using h⟩
  | false =>
    obtain rfl := h2 rfl
    match cs, h with
    | [c], h => exact h.1
theorem castL_some {a b : Ty} {x : List a.den} {y : List b.den} (h : castL a b x = some y) : ∃ e : a = b, y = e ▸ x := by
  unfold castL at h
  split at h
  · rename_i hb
    exact ⟨Ty.beq_eq hb, by simpa using h.symm⟩
  · cases h

theorem cells_of_rep : ∀ {t : Ty} {x : t.den} {c : List Value}, Rep w ok t x c → All2 (CVRel w ok g lk) (cells t x) c
  | .int _, _, _, h => by simp only [Rep] at h; subst h; exact ⟨rfl, trivial⟩
  | .bool, _, _, h => by simp only [Rep] at h; subst h; exact ⟨rfl, trivial⟩
  | .str, _, _, h => by simp only [Rep] at h; subst h; exact ⟨rfl, trivial⟩
  | .sl _ e, xs, c, h => by
    obtain ⟨a, cap, rfl, hl, hr⟩ := h
    exact ⟨⟨a, cap, rfl, hl, hr⟩, trivial⟩
  | .pair _ _, _, _, h => by
    obtain ⟨c, d, rfl, hc, hd⟩ := h
    exact (cells_of_rep hc).append (cells_of_rep hd)
theorem cells_len : ∀ {t : Ty} (x : t.den), (cells t x).length = t.n
  | .int _, _ => rfl
  | .bool, _ => rfl
  | .str, _ => rfl
  | .sl _ _, _ => rfl
  | .pair a b, x => by simp only [cells, List.length_append, Ty.n, cells_len]
/-- Where the blocks of all objects may be read. -/
structure Reads (w : World) (ok : Nat → Prop) (g : Gh) (lk : Nat → Option AObj) (okc : Nat → Prop) : Prop where
  ok : ∀ b, ok b → okc b
  arr : ∀ o t e xs, lk o = some (.arr t e xs) → Own w (.sl t e) xs [g.val o] (g.fp o) ∧ ∀ b ∈ g.fp o, okc b
theorem rep_sl {okc : Nat → Prop} {t t' : Nat} {e : Ty} {xs : List e.den} {cs : List Value} (h : Rep w okc (.sl t e) xs cs) : Rep w okc (.sl t' e) xs cs := h
theorem rep_nil {okc : Nat → Prop} {t : Nat} {e : Ty} (a : Option Addr) (c : Nat) : Rep w okc (.sl t e) [] [.slice a 0 c] := ⟨a, c, rfl, Nat.zero_le _, fun i x h => by simp at h⟩
theorem snap1_rep {okc : Nat → Prop} (hr : Reads w ok g lk okc) (hd : ∀ o, g.dead o → lk o = none) {t : Ty} {c : CV} {x : t.den} {v : Value} (h : snap1 lk t c = some x) (hc : CVRel w ok g lk c v) : Rep w okc t x [v] := by
  unfold snap1 at h
  split at h
  · rename_i k k' n
    simp only [CVRel] at hc
    cases hk : IntKind.same k' k with
    | false => simp [hk] at h
    | true =>
      simp [hk] at h
      subst h hc
      rw [IntKind.same_eq hk]
      rfl
  · simp only [CVRel] at hc; simp at h; subst h hc; rfl
  · simp only [CVRel] at hc; simp at h; subst h hc; rfl
  · obtain ⟨e1, rfl⟩ := castL_some h
    subst e1
    exact Rep.move (w := w) (w' := w) hr.ok (fun _ _ => rfl) hc
  · obtain ⟨a, rfl⟩ := hc
    simp at h; subst h
    exact rep_nil a 0
  · rename_i e o
    split at h
    · rename_i t' e' xs hx
      obtain ⟨e1, rfl⟩ := castL_some h
      subst e1
      rcases hc.2 with h1 | ⟨t'', e'', xs', h2, h3⟩
      · rw [hd _ h1] at hx; cases hx
      · rw [hx] at h2
        obtain ⟨h4, h5⟩ := hr.arr _ _ _ _ hx
        rw [h3]
        exact rep_sl (h4.rep h5)
    · cases h
  · cases h
theorem snapN_rep {okc : Nat → Prop} (hr : Reads w ok g lk okc) (hd : ∀ o, g.dead o → lk o = none) : ∀ {t : Ty} {cs : List CV} {x : t.den} {r : List CV} {vs : List Value}, snapN lk t cs = some (x, r) → All2 (CVRel w ok g lk) cs vs →
    ∃ v1 v2, vs = v1 ++ v2 ∧ Rep w okc t x v1 ∧ All2 (CVRel w ok g lk) r v2
  | .pair a b, cs, x, r, vs, h, hc => by
    simp only [snapN, Option.bind_eq_some_iff] at h
    obtain ⟨⟨x1, r1⟩, h1, ⟨x2, r2⟩, h2, h3⟩ := h
    simp only [Option.some.injEq, Prod.mk.injEq] at h3
    obtain ⟨rfl, rfl⟩ := h3
    obtain ⟨v1, v2, rfl, h4, h5⟩ := snapN_rep hr hd h1 hc
    obtain ⟨v3, v4, rfl, h6, h7⟩ := snapN_rep hr hd h2 h5
    exact ⟨v1 ++ v3, v4, by simp, ⟨v1, v3, rfl, h4, h6⟩, h7⟩
  | .int k, c :: cs, x, r, v :: vs, h, hc => by
    simp only [snapN, Option.map_eq_some_iff, Prod.mk.injEq] at h
    obtain ⟨y, h1, rfl, rfl⟩ := h
    exact ⟨[v], vs, rfl, snap1_rep hr hd h1 hc.1, hc.2⟩
  | .bool, c :: cs, x, r, v :: vs, h, hc => by
    simp only [snapN, Option.map_eq_some_iff, Prod.mk.injEq] at h
    obtain ⟨y, h1, rfl, rfl⟩ := h
    exact ⟨[v], vs, rfl, snap1_rep hr hd h1 hc.1, hc.2⟩
  | .str, c :: cs, x, r, v :: vs, h, hc => by
    simp only [snapN, Option.map_eq_some_iff, Prod.mk.injEq] at h
    obtain ⟨y, h1, rfl, rfl⟩ := h
    exact ⟨[v], vs, rfl, snap1_rep hr hd h1 hc.1, hc.2⟩
  | .sl t e, c :: cs, x, r, v :: vs, h, hc => by
    simp only [snapN, Option.map_eq_some_iff, Prod.mk.injEq] at h
    obtain ⟨y, h1, rfl, rfl⟩ := h
    exact ⟨[v], vs, rfl, snap1_rep hr hd h1 hc.1, hc.2⟩
  | .int _, [], _, _, _, h, _ => by simp [snapN] at h
  | .bool, [], _, _, _, h, _ => by simp [snapN] at h
  | .str, [], _, _, _, h, _ => by simp [snapN] at h
  | .sl _ _, [], _, _, _, h, _ => by simp [snapN] at h
  | .int _, _ :: _, _, _, [], _, hc => hc.elim
  | .bool, _ :: _, _, _, [], _, hc => hc.elim
  | .str, _ :: _, _, _, [], _, hc => hc.elim
  | .sl _ _, _ :: _, _, _, [], _, hc => hc.elim

/-! ### loads -/
theorem add_none (b off j : Nat) : (⟨b, off, none⟩ : Addr).add j = ⟨b, off + j, none⟩ := by
  unfold Addr.add; split <;> simp_all
theorem addr_none {ad : Addr} (h : ad.spot = none) : ad = ⟨ad.block, ad.off, none⟩ := by cases ad; simp_all
theorem tsize_run {P : Program} {t : TypeId} {n : Nat} (h : tsize P t = some n) (w : World) : (sizeOf t).run P w = .ok n w := by
  unfold tsize at h
  split at h
  · cases hi : P.info? t with
    | none => simp [hi] at h
    | some i => simp [hi] at h; subst h; simp [sizeOf, typeInfo, hi]
  · cases h
theorem tagg_run {P : Program} {t : TypeId} {n : Nat} (h : tsize P t = some n) (w : World) : (isAgg t).run P w = .ok (tagg P t) w := by
  unfold tsize at h
  split at h
  · rename_i d hd
    simp only [isAgg, Sem.run_bind, run_underlying hd, tagg, hd]
    cases d <;> simp
  · cases h
/-- a load out of cells that are known -/
theorem run_load_cells {P : Program} {t : TypeId} {vs : List Value} (hn : tsize P t = some vs.length) (h1 : (tagg P t || Nat.beq vs.length 1) = true) {ad : Addr} (hs : ad.spot = none)
    (hc : ∀ (j : Nat) (u : Value), vs[j]? = some u → w.cell? ⟨ad.block, ad.off + j, none⟩ = some u) :
    ∃ v, (loadVar t ad).run P w = .ok v w ∧ (tagg P t = true → v = .agg vs.toArray) ∧ (tagg P t = false → vs = [v]) := by
  have had : ∀ j, ad.add j = ⟨ad.block, ad.off + j, none⟩ := fun j => by rw [addr_none hs]; exact add_none _ _ _
  cases hg : tagg P t with
  | true =>
    refine ⟨.agg vs.toArray, ?_, fun _ => rfl, fun h => by cases h⟩
    have hl := run_loadCells_list (P := P) w ad vs fun j u hu => by rw [had]; exact hc j u hu
    simp [loadVar, Sem.run_bind, tagg_run hn, hg, tsize_run hn, hl]
  | false =>
    rw [hg] at h1
    match vs, hn, h1, hc with
    | [u], hn, _, hc =>
      refine ⟨u, ?_, fun h => (by cases h), fun _ => rfl⟩
      have := hc 0 u rfl
      rw [Nat.add_zero, ← addr_none hs] at this
      simp [loadVar, Sem.run_bind, tagg_run hn, hg, run_load, this]
    | [], _, h1, _ => simp at h1
    | _ :: _ :: _, _, h1, _ => simp at h1
end Go.Proofs.YtglbaihiibdemaaGreatDoor.Am
