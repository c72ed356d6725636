/- What is proved here: stores. -/
import Derived.Test.YtglbaihiibdemaaGreatDoorAm16
namespace Go.Proofs.YtglbaihiibdemaaGreatDoor.Am
open Go
set_option autoImplicit false
variable {X : Ctx} {mine : Nat → Prop} {w w' w'' : World} {g g' g'' : Gh} {lk lk' lk'' : Nat → Option AObj} {E E' : Env} {a : Act} {n : Nat} {o : Oper}

theorem store_run {P : Program} {t : TypeId} {x y : Operand} (ho : o.op = .store t x y) {b off : Nat} (hx : a.eval x = .pointer (some ⟨b, off, none⟩)) {sz : Nat} (hs : tsize P t = some sz) (hv : (a.eval y).cells.size = sz) (h1 : ∀ u ∈ (a.eval y).cells.toList, u.oneCell' = true)
    {cur : Array Value} {tid : TypeId} (hb : w.heap[b]? = some (.cells cur tid (0, 0))) (hle : off + sz ≤ cur.size) :
    (execOp a.eval o).run P w = .ok .skip (w.setRow b (cur.toList.take off ++ (a.eval y).cells.toList ++ cur.toList.drop (off + sz)).toArray) := by
  have hl : (a.eval y).cells.toList.length = sz := by simpa using hv
  have := run_storeCells_at P b off tid (a.eval y).cells.toList 0 cur w hb (by rw [hl]; omega) h1
  rw [hl] at this
  simp only [Nat.add_zero] at this
  simp only [execOp, ho, Instr.storeAt, Instr.sureAddr, hx, storeVar, Sem.run_bind, Sem.run_pure, Result.andThen_ok, tsize_run hs, hv, ne_eq, not_true_eq_false, if_false, this]
theorem put_len {cur vs : List Value} {off : Nat} (h : off + vs.length ≤ cur.length) : (cur.take off ++ vs ++ cur.drop (off + vs.length)).length = cur.length := by
  simp; omega
theorem put_row {cur vs : List Value} {i k off L : Nat} (h1 : off + vs.length ≤ k) (h2 : i * k + k ≤ L) (h3 : L ≤ cur.length) :
    (cur.take (i * k + off) ++ vs ++ cur.drop (i * k + off + vs.length)).take L =
      (cur.take L).take (i * k) ++ ((((cur.take L).drop (i * k)).take k).take off ++ vs ++ (((cur.take L).drop (i * k)).take k).drop (off + vs.length)) ++ (cur.take L).drop (i * k + k) := by
  generalize i * k = p at *
  apply List.ext_getElem?
  intro j
  simp only [List.getElem?_append, List.getElem?_take, List.getElem?_drop, List.length_append, List.length_take, List.length_drop]
  grind
theorem Rows.setAt {α : Type} {R : α → List Value → List Nat → Prop} {k : Nat} (hR : ∀ x c S, R x c S → c.length = k) : ∀ {xs : List α} {cs : List Value} {S : List Nat}, Rows R xs cs S → ∀ (i : Nat) (x : α), xs[i]? = some x →
    ∃ c T S1 S2, S = S1 ++ T ++ S2 ∧ R x c T ∧ c = (cs.drop (i * k)).take k ∧ ∀ x' c' T', R x' c' T' → Rows R (xs.set i x') (cs.take (i * k) ++ c' ++ cs.drop (i * k + k)) (S1 ++ T' ++ S2)
  | [], _, _, _, i, x, hx => by simp at hx
  | y :: xs, _, _, h, i, x, hx => by
    obtain ⟨c, cs', S1, S2, rfl, rfl, hy, hr⟩ := h
    have hl := hR _ _ _ hy
    cases i with
    | zero =>
      obtain rfl : y = x := by simpa using hx
      refine ⟨c, S1, [], S2, by simp, hy, by simp [← hl], fun x' c' T' h' => ⟨c', cs', T', S2, ?_, by simp, h', hr⟩⟩
      simp [← hl]
    | succ i =>
      obtain ⟨d, T, U1, U2, rfl, h1, h2, h3⟩ := hr.setAt hR i x (by simpa using hx)
      have e1 : (i + 1) * k = c.length + i * k := by rw [Nat.succ_mul, hl]; omega
      have hz : ∀ m, c.drop (c.length + m) = [] := fun m => List.drop_of_length_le (by omega)
      have ht : ∀ m, c.take (c.length + m) = c := fun m => List.take_of_length_le (by omega)
      refine ⟨d, T, S1 ++ U1, U2, by simp, h1, ?_, fun x' c' T' h' => ⟨c, _, S1, _, ?_, by simp, hy, h3 x' c' T' h'⟩⟩
      · rw [h2, e1, List.drop_append]
        simp [hz]
      · rw [e1, show c.length + i * k + k = c.length + (i * k + k) by omega]
        simp [List.take_append, List.drop_append, hz, ht]
/-- a part of an element, written -/
theorem own_put {tid : Nat} {e : Ty} {xs : List e.den} {val : Value} {fp D : List Nat} (h : Own w (.sl tid e) xs [val] fp) {i off : Nat} {x' : e.den} {vs : List Value} {x : e.den} (hi : xs[i]? = some x) (hoff : off + vs.length ≤ e.n)
    (hD : ∀ b ∈ D, b ∉ fp) (hnew : ∀ c T, Own w e x c T → (∀ q ∈ D, q ∉ T) → ∃ T', Own w e x' (c.take off ++ vs ++ c.drop (off + vs.length)) T' ∧ ∀ b ∈ T', b ∈ T ∨ b ∈ D) :
    ∃ b cap cur fp', val = .slice (some ⟨b, 0, none⟩) xs.length cap ∧ w.heap[b]? = some (.cells cur tid (0, 0)) ∧ i * e.n + off + vs.length ≤ cur.size ∧ fp.head? = some b ∧ fp'.head? = some b ∧ (∀ q ∈ fp', q ∈ fp ∨ q ∈ D) ∧
      Own (w.setRow b (cur.toList.take (i * e.n + off) ++ vs ++ cur.toList.drop (i * e.n + off + vs.length)).toArray) (.sl tid e) (xs.set i x') [val] fp' := by
  rcases h with ⟨_, _, hnil, _⟩ | ⟨gb, cap, cur, css, S', e1, hgb, hcap, hmax, hsz, htk, hrows, rfl, hnd⟩
  · subst hnil; simp at hi
  · have e1 : val = .slice (some ⟨gb, 0, none⟩) xs.length cap := by simpa using e1
    have hlt := (List.getElem?_eq_some_iff.1 hi).1
    have hrow : i * e.n + e.n ≤ xs.length * e.n := by rw [← Nat.succ_mul]; exact Nat.mul_le_mul_right _ hlt
    have hle : xs.length * e.n ≤ cur.size := by rw [hsz]; exact Nat.mul_le_mul_right _ hcap
    obtain ⟨c, T, S1, S2, rfl, hc, hcd, hset⟩ := hrows.setAt (fun x c S h => Own.len h) i x hi
    obtain ⟨T', hT', hsub⟩ := hnew c T hc fun q hq hqT => hD q hq (by simp [hqT])
    rw [List.nodup_cons] at hnd
    have hbD : gb ∉ D := fun hm => hD gb hm List.mem_cons_self
    have hmem : ∀ q ∈ S1 ++ T' ++ S2, q ∈ S1 ++ T ++ S2 ∨ q ∈ D := by
      intro q hq
      simp only [List.mem_append] at hq ⊢
      rcases hq with (hq | hq) | hq
      · exact .inl (.inl (.inl hq))
      · rcases hsub q hq with h | h
        · exact .inl (.inl (.inr h))
        · exact .inr h
      · exact .inl (.inr hq)
    have hnd' : (S1 ++ T' ++ S2).Nodup := by
      have hn := hnd.2
      rw [List.nodup_append, List.nodup_append] at hn ⊢
      obtain ⟨⟨n1, n2, n3⟩, n4, n5⟩ := hn
      refine ⟨⟨n1, hT'.nodup, fun x hx y hy e => ?_⟩, n4, fun x hx y hy e => ?_⟩
      · subst e
        rcases hsub x hy with h | h
        · exact n3 x hx x h rfl
        · exact hD x h (by simp [hx])
      · subst e
        rcases List.mem_append.1 hx with h | h
        · exact n5 x (List.mem_append_left _ h) x hy rfl
        · rcases hsub x h with h | h
          · exact n5 x (List.mem_append_right _ h) x hy rfl
          · exact hD x h (by simp [hy])
    have hgn : gb ∉ S1 ++ T' ++ S2 := fun hm => (hmem gb hm).elim hnd.1 hbD
    have hput : i * e.n + off + vs.length ≤ cur.size := by omega
    refine ⟨gb, cap, cur, gb :: (S1 ++ T' ++ S2), e1, hgb, hput, rfl, rfl, fun q hq => ?_, .inr ⟨gb, cap, _, _, S1 ++ T' ++ S2, by rw [List.length_set]; simpa using e1, setRow_heap w gb cur _ tid _ hgb, by rw [List.length_set]; exact hcap, hmax, ?_, rfl, ?_, rfl, List.nodup_cons.2 ⟨hgn, hnd'⟩⟩⟩
    · rcases List.mem_cons.1 hq with rfl | hq
      · exact .inl List.mem_cons_self
      · rcases hmem q hq with h | h
        · exact .inl (List.mem_cons_of_mem _ h)
        · exact .inr h
    · have := put_len (cur := cur.toList) (vs := vs) (off := i * e.n + off) (by simpa using hput)
      rw [← hsz]
      simpa using this
    · rw [List.length_set]
      simp only [List.toList_toArray]
      rw [put_row hoff hrow (by simpa using hle), htk, ← hcd]
      refine (hset x' _ T' hT').imp fun y d U hU hy => hy.move fun q hq => setRow_other w gb q _ fun e => hgn (e ▸ hU q hq)
/-- one cell of data, written -/
theorem upd_rel (r : HRel X mine w g lk) {ok : Nat → Prop} {c : CV} {u : Value} (hc : CVRel w ok g lk c u) {H H' : Heap} (hH : ∀ o x, look H o = some x → lk o = some x) : ∀ {t : Ty} {x y : t.den} {off : Nat}, upd t x off H c = some (y, H') → off < t.n →
    ∃ C, Taken H H' C ∧ ∀ (cs : List Value) (T : List Nat), Own w t x cs T → (∀ b ∈ fps g C, b ∉ T) → ∃ T', Own w t y (cs.take off ++ [u] ++ cs.drop (off + 1)) T' ∧ ∀ b ∈ T', b ∈ T ∨ b ∈ fps g C
  | .pair p q, x, y, off, h, hlt => by
    simp only [upd] at h
    by_cases hoff : off < p.n
    · have hb : Nat.blt off p.n = true := by simp only [Nat.blt, Nat.ble_eq]; omega
      rw [hb, cond_true] at h
      simp only [Option.map_eq_some_iff, Prod.mk.injEq] at h
      obtain ⟨⟨z, H1⟩, hz, rfl, rfl⟩ := h
      obtain ⟨C, tk, hT⟩ := upd_rel r hc hH hz hoff
      refine ⟨C, tk, fun cs T ho hd => ?_⟩
      obtain ⟨c1, c2, S1, S2, rfl, rfl, hnd, o1, o2⟩ := ho
      have l1 := o1.len
      rw [List.nodup_append] at hnd
      obtain ⟨T', h1, h2⟩ := hT c1 S1 o1 fun b hb hm => hd b hb (List.mem_append_left _ hm)
      refine ⟨T' ++ S2, ⟨_, c2, T', S2, ?_, rfl, ?_, h1, o2⟩, fun b hb => ?_⟩
      · rw [List.take_append_of_le_length (by omega), List.drop_append_of_le_length (by omega)]
        simp
      · refine List.nodup_append.2 ⟨h1.nodup, hnd.2.1, fun b hb b' hb' e => ?_⟩
        subst e
        rcases h2 b hb with h3 | h3
        · exact hnd.2.2 b h3 b hb' rfl
        · exact hd b h3 (List.mem_append_right _ hb')
      · rcases List.mem_append.1 hb with hb | hb
        · rcases h2 b hb with h3 | h3
          · exact .inl (List.mem_append_left _ h3)
          · exact .inr h3
        · exact .inl (List.mem_append_right _ hb)
    · have hb : Nat.blt off p.n = false := by
        cases h1 : Nat.blt off p.n with
        | false => rfl
        | true =>
          simp only [Nat.blt, Nat.ble_eq] at h1
          omega
      rw [hb, cond_false] at h
      simp only [Option.map_eq_some_iff, Prod.mk.injEq] at h
      obtain ⟨⟨z, H1⟩, hz, rfl, rfl⟩ := h
      simp only [Ty.n] at hlt
      obtain ⟨C, tk, hT⟩ := upd_rel r hc hH hz (by omega)
      refine ⟨C, tk, fun cs T ho hd => ?_⟩
      obtain ⟨c1, c2, S1, S2, rfl, rfl, hnd, o1, o2⟩ := ho
      have l1 := o1.len
      rw [List.nodup_append] at hnd
      obtain ⟨T', h1, h2⟩ := hT c2 S2 o2 fun b hb hm => hd b hb (List.mem_append_right _ hm)
      refine ⟨S1 ++ T', ⟨c1, _, S1, T', ?_, rfl, ?_, o1, h1⟩, fun b hb => ?_⟩
      · rw [List.take_append, List.drop_append, List.take_of_length_le (by omega), List.drop_of_length_le (by omega), l1]
        simp [show off + 1 - p.n = off - p.n + 1 by omega]
      · refine List.nodup_append.2 ⟨hnd.1, h1.nodup, fun b hb b' hb' e => ?_⟩
        subst e
        rcases h2 b hb' with h3 | h3
        · exact hnd.2.2 b hb b h3 rfl
        · exact hd b h3 (List.mem_append_left _ hb)
      · rcases List.mem_append.1 hb with hb | hb
        · exact .inl (List.mem_append_left _ hb)
        · rcases h2 b hb with h3 | h3
          · exact .inl (List.mem_append_right _ h3)
          · exact .inr h3
  | .int k, x, y, off, h, hlt => by
    obtain ⟨C, tk, o1⟩ := take1_rel r hH h hc
    obtain rfl : off = 0 := by simp [Ty.n] at hlt; omega
    exact ⟨C, tk, fun cs T ho _ => by obtain ⟨rfl, rfl⟩ := ho; exact ⟨fps g C, by simpa using o1, fun b hb => .inr hb⟩⟩
  | .bool, x, y, off, h, hlt => by
    obtain ⟨C, tk, o1⟩ := take1_rel r hH h hc
    obtain rfl : off = 0 := by simp [Ty.n] at hlt; omega
    exact ⟨C, tk, fun cs T ho _ => by obtain ⟨rfl, rfl⟩ := ho; exact ⟨fps g C, by simpa using o1, fun b hb => .inr hb⟩⟩
  | .str, x, y, off, h, hlt => by
    obtain ⟨C, tk, o1⟩ := take1_rel r hH h hc
    obtain rfl : off = 0 := by simp [Ty.n] at hlt; omega
    exact ⟨C, tk, fun cs T ho _ => by obtain ⟨rfl, rfl⟩ := ho; exact ⟨fps g C, by simpa using o1, fun b hb => .inr hb⟩⟩
  | .sl t e, x, y, off, h, hlt => by
    obtain ⟨C, tk, o1⟩ := take1_rel r hH h hc
    obtain rfl : off = 0 := by simp [Ty.n] at hlt; omega
    refine ⟨C, tk, fun cs T ho _ => ?_⟩
    have hl : cs.length = 1 := ho.len
    obtain ⟨z, rfl⟩ : ∃ z, cs = [z] := by match cs, hl with | [z], _ => exact ⟨z, rfl⟩
    exact ⟨fps g C, by simpa using o1, fun b hb => .inr hb⟩
end Go.Proofs.YtglbaihiibdemaaGreatDoor.Am
