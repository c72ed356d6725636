/- What is proved here: slices that are used up; what an append makes of them. -/
import Derived.Test.YtglbaihiibdemaaGreatDoorAm19
namespace Go.Proofs.YtglbaihiibdemaaGreatDoor.Am
open Go
set_option autoImplicit false
variable {X : Ctx} {mine : Nat → Prop} {w w' w'' : World} {g g' g'' : Gh} {lk lk' lk'' : Nat → Option AObj} {E E' : Env} {a : Act} {n : Nat} {o : Oper}

/-- the cells of a slice that is owned -/
theorem own_first {tid : Nat} {e : Ty} {xs : List e.den} {v : Value} {S : List Nat} (h : Own w (.sl tid e) xs [v] S) : ∃ base c css T, v = .slice base xs.length c ∧ xs.length ≤ c ∧ Rows (Own w e) xs css T ∧
    ((S = [] ∧ T = [] ∧ xs = [] ∧ c = 0) ∨ ∃ gb cur, base = some ⟨gb, 0, none⟩ ∧ w.heap[gb]? = some (.cells cur tid (0, 0)) ∧ c ≤ maxLen ∧ cur.size = c * e.n ∧ cur.toList.take (xs.length * e.n) = css ∧ S = gb :: T ∧ S.Nodup) ∧
    ∀ P, (Builtin.firstCells e.n xs.length v).run P w = .ok css.toArray w ∧ (Builtin.firstCells e.n xs.length v).run P w.drew = .ok css.toArray w.drew := by
  rcases h with ⟨ad, e1, rfl, rfl⟩ | ⟨gb, cap, cur, css, S', e1, hgb, hcap, hmax, hsz, htk, hrows, rfl, hnd⟩
  · have e1 : v = .slice ad 0 0 := by simpa using e1
    subst e1
    refine ⟨ad, 0, [], [], rfl, Nat.le_refl _, ⟨rfl, rfl⟩, .inl ⟨rfl, rfl, rfl, rfl⟩, fun P => ?_⟩
    cases ad <;> simp [Builtin.firstCells, loadCells, loadCellsFrom]
  · have e1 : v = .slice (some ⟨gb, 0, none⟩) xs.length cap := by simpa using e1
    subst e1
    have hl := hrows.len fun x c S h => Own.len h
    have hcell : ∀ j v, css[j]? = some v → w.cell? ((⟨gb, 0, none⟩ : Addr).add j) = some v := fun j v hj => by
      rw [add_none, Nat.zero_add, cell_row hgb]
      rw [← htk, List.getElem?_take] at hj
      split at hj
      · exact hj
      · cases hj
    refine ⟨_, cap, css, S', rfl, hcap, hrows, .inr ⟨gb, cur, rfl, hgb, hmax, hsz, htk, rfl, hnd⟩, fun P => ⟨?_, ?_⟩⟩
    · exact run_firstCells_some (P := P) w _ _ _ _ cap css hl hcell
    · exact run_firstCells_some (P := P) w.drew _ _ _ _ cap css hl (by simpa using hcell)
theorem own_src {P : Program} {tid : Nat} {e : Ty} {xs : List e.den} {v : Value} {S : List Nat} (h : Own w (.sl tid e) xs [v] S) {u eu : TypeId} (hu : P.underlying u = some (.slice eu)) : ∃ news T, Src P w e.n xs.length u v news ∧ Rows (Own w e) xs news T ∧ (∀ b ∈ T, b ∈ S) ∧ T.Nodup := by
  obtain ⟨base, c, css, T, rfl, hc, hrows, hS, hrun⟩ := own_first h
  refine ⟨css, T, ⟨.inl ⟨_, hu⟩, fun _ => rfl, hrows.len (fun x c S h => Own.len h), hrows.one (fun x c S h => Own.one h), hrun P⟩, hrows, ?_, ?_⟩
  · rcases hS with ⟨rfl, rfl, _⟩ | ⟨gb, cur, _, _, _, _, _, rfl, hnd⟩
    · simp
    · exact fun b hb => List.mem_cons_of_mem _ hb
  · rcases hS with ⟨rfl, rfl, _⟩ | ⟨gb, cur, _, _, _, _, _, rfl, hnd⟩
    · simp
    · exact (List.nodup_cons.1 hnd).2
theorem rows_lt {e : Ty} : ∀ {xs : List e.den} {cs : List Value} {S : List Nat}, Rows (Own w e) xs cs S → ∀ b ∈ S, b < w.heap.size
  | [], _, _, h => by obtain ⟨_, rfl⟩ := h; simp
  | x :: xs, _, _, h => by
    obtain ⟨c, cs', S1, S2, rfl, rfl, hx, hr⟩ := h
    intro b hb
    rcases List.mem_append.1 hb with hb | hb
    · exact Own.lt hx b hb
    · exact rows_lt hr b hb
/-- WHAT AN APPEND MAKES -/
theorem own_append {P : Program} {e : Ty} {el : TypeId} {i : TypeInfo} {z : Value} {t u ty : TypeId} (ht : P.underlying t = some (.slice el)) (hi : P.info? el = some i) (hz : i.zero = some z) (hzl : z.cells.size = e.n) (hsz : i.size = e.n) {xs ys : List e.den} {v y : Value} {S T news}
    (h : Own w (.sl el e) xs [v] S) (hs : Src P w e.n ys.length u y news) (hr : Rows (Own w e) ys news T) (hT : T.Nodup) (hST : ∀ b ∈ T, b ∉ S) (h1 : ((xs.length + ys.length : Nat) : Int) * i.bytes ≤ 140737488355328) (h2 : ((xs.length + ys.length : Nat) : Int) ≤ 140737488355328) :
    ∃ v' w' W S', (Builtin.append_ #[t, u] ty #[v, y]).run P w = .ok v' w' ∧ Kept W w w' ∧ (∀ b ∈ W, b ∈ S.take 1) ∧ Own w' (.sl el e) (xs ++ ys) [v'] S' ∧ (∀ b ∈ S', w.heap.size ≤ b ∨ b ∈ S ∨ b ∈ T) ∧ ∀ b ∈ S'.take 1, w.heap.size ≤ b ∨ b ∈ S.take 1 := by
  obtain ⟨base, c, css, U, rfl, hc, hrows, hS, hrun⟩ := own_first h
  rw [← hsz] at hs hrun
  have hnl := hr.len fun x c S h => Own.len h
  have hcl := hrows.len fun x c S h => Own.len h
  by_cases h0 : ys = []
  · subst h0
    exact ⟨_, w, [], S, append_still ht hi hs base _ c hc, Kept.refl _ _, by simp, by rw [List.append_nil]; exact h, fun b hb => .inr (.inl hb), fun b hb => .inr hb⟩
  have hpos : 0 < ys.length := List.length_pos_iff.2 h0
  by_cases hroom : xs.length + ys.length ≤ c
  · obtain ⟨gb, cur, rfl, hgb, hmax, hcur, htk, rfl, hnd⟩ := hS.resolve_left (by rintro ⟨_, _, _, rfl⟩; omega)
    have hkm : (xs.length + ys.length) * e.n ≤ c * e.n := Nat.mul_le_mul_right _ hroom
    rw [Nat.add_mul] at hkm
    have hcL : cur.toList.length = c * e.n := by simpa using hcur
    have hnot : gb ∉ U ++ T := by
      intro hm
      rcases List.mem_append.1 hm with hm | hm
      · exact (List.nodup_cons.1 hnd).1 hm
      · exact hST gb hm List.mem_cons_self
    refine ⟨_, _, [gb], gb :: (U ++ T), append_room ht hi hs hgb hroom (by rw [hsz, hnl, hcur]; omega), Kept.setRow w gb _, by simp, ?_, fun b hb => ?_, by simp⟩
    · refine .inr ⟨gb, c, _, css ++ news, U ++ T, by simp, setRow_heap w gb cur _ el _ hgb, by simpa using hroom, hmax, ?_, ?_, ?_, rfl, ?_⟩
      · have := put_len (cur := cur.toList) (vs := news) (off := xs.length * i.size) (by rw [hsz, hnl, hcL]; omega)
        rw [← hcur]
        simpa using this
      · simp only [List.length_append]
        rw [hsz, Nat.add_mul, ← htk, List.append_assoc, ← hnl]
        rw [List.take_append, List.take_of_length_le (by simp; omega), List.take_append]
        have h5 : (List.take (xs.length * e.n) cur.toList).length = xs.length * e.n := by rw [List.length_take, hcL]; omega
        rw [h5, Nat.add_sub_cancel_left, List.take_of_length_le (Nat.le_refl _), Nat.sub_self, List.take_zero, List.append_nil]
      · exact (hrows.append hr).imp fun x d V hV hx => hx.move fun b hb => setRow_other w gb b _ fun e => hnot (e ▸ hV b hb)
      · refine List.nodup_cons.2 ⟨hnot, List.nodup_append.2 ⟨(List.nodup_cons.1 hnd).2, hT, fun x hx y hy e => ?_⟩⟩
        subst e
        exact hST x hy (List.mem_cons_of_mem _ hx)
    · rcases List.mem_cons.1 hb with rfl | hb
      · exact .inr (.inl List.mem_cons_self)
      · rcases List.mem_append.1 hb with hb | hb
        · exact .inr (.inl (List.mem_cons_of_mem _ hb))
        · exact .inr (.inr hb)
  · have hnc := nextcap_le (xs.length + ys.length) c (by omega)
    have hbytes : Builtin.nextslicecap (xs.length + ys.length) c * i.bytes ≤ 281474976710656 := by
      have h3 : (((xs.length + ys.length) * i.bytes : Nat) : Int) ≤ 140737488355328 := by rw [Int.natCast_mul]; exact h1
      have h4 : Builtin.nextslicecap (xs.length + ys.length) c * i.bytes ≤ 2 * (xs.length + ys.length) * i.bytes := Nat.mul_le_mul_right _ hnc
      have h5 : 2 * (xs.length + ys.length) * i.bytes = 2 * ((xs.length + ys.length) * i.bytes) := by rw [Nat.mul_assoc]
      omega
    have hrun' := append_grow (ty := ty) ht hi hz hs (hrun P).2 (by omega) (by omega) hbytes
    have hUS : ∀ b ∈ U, b ∈ S := by
      rcases hS with ⟨rfl, rfl, _⟩ | ⟨gb, cur, _, _, _, _, _, rfl, _⟩
      · simp
      · exact fun b hb => List.mem_cons_of_mem _ hb
    have hUT : (U ++ T).Nodup := by
      refine List.nodup_append.2 ⟨?_, hT, fun x hx y hy e => ?_⟩
      · rcases hS with ⟨_, rfl, _⟩ | ⟨gb, cur, _, _, _, _, _, rfl, hnd⟩
        · simp
        · exact (List.nodup_cons.1 hnd).2
      · subst e
        exact hST x hy (hUS x hx)
    have hown := own_grow (el := el) hsz hzl (hrows.append hr) hUT (c := c) (by simp only [List.length_append, maxLen]; omega)
    refine ⟨_, _, [], w.heap.size :: (U ++ T), hrun', (Kept.drew [] w).trans (Kept.alloc [] _ _) (by simp) (by simp), by simp, ?_, fun b hb => ?_, by simp⟩
    · simp only [List.length_append] at hown
      simpa using hown
    · rcases List.mem_cons.1 hb with rfl | hb
      · exact .inl (Nat.le_refl _)
      · rcases List.mem_append.1 hb with hb | hb
        · exact .inr (.inl (hUS b hb))
        · exact .inr (.inr hb)
/-- A slice that the call owns, used up. -/
structure UsedS (H H1 : Heap) (lk : Nat → Option AObj) (g : Gh) (D : List Nat) (S : List Nat) : Prop where
  len : H1.length = H.length
  look : ∀ q, Am.look H1 q = if q ∈ D then none else Am.look H q
  live : ∀ q ∈ D, ∃ x, Am.look H q = some x
  fps : ∀ b ∈ S, ∃ q x, q ∈ D ∧ lk q = some x ∧ b ∈ g.fp q
  top : ∀ b ∈ S.take 1, ∃ q x, q ∈ D ∧ lk q = some x ∧ b ∈ tops (g.fp q) x
theorem takeS_rel (r : HRel X mine w g lk) {ok : Nat → Prop} {H H1 : Heap} (hH : ∀ q z, look H q = some z → lk q = some z) {el : Nat} {e : Ty} {x : AV} {v : Value} {xs : List e.den} (hx : AVRel w ok g lk x v) (h : takeS el e H x = some (xs, H1)) : ∃ D S, UsedS H H1 lk g D S ∧ Own w (.sl el e) xs [v] S := by
  unfold takeS at h
  split at h
  · simp only [Option.some.injEq, Prod.mk.injEq] at h
    obtain ⟨rfl, rfl⟩ := h
    obtain ⟨ad, rfl⟩ := hx
    exact ⟨[], [], ⟨rfl, by simp, by simp, by simp, by simp⟩, .inl ⟨ad, rfl, rfl, rfl⟩⟩
  · rename_i p
    simp only [take1] at h
    split at h
    · rename_i t' e' xs' hp
      rw [cond_none] at h
      obtain ⟨ht, h⟩ := h
      simp only [Option.map_eq_some_iff, Prod.mk.injEq] at h
      obtain ⟨ys, hy, rfl, rfl⟩ := h
      obtain ⟨rfl, rfl⟩ := castL_some hy
      obtain rfl := Nat.eq_of_beq_eq_true ht
      have hl := hH p _ hp
      refine ⟨[p], g.fp p, ⟨by simp, fun q => ?_, fun q hq => ?_, fun b hb => ⟨p, _, by simp, hl, hb⟩, fun b hb => ⟨p, _, by simp, hl, hb⟩⟩, ?_⟩
      · rw [look_gone]
        by_cases hpo : p = q
        · subst hpo; simp
        · have : q ≠ p := fun e => hpo e.symm
          simp [hpo, this]
      · obtain rfl : q = p := by simpa using hq
        exact ⟨_, hp⟩
      · rcases hx.2 with hd | ⟨t2, e2, xs2, h2, hv⟩
        · rw [r.dead _ hd] at hl; cases hl
        · rw [hv]
          exact (show Own w (.sl t' _) _ [g.val p] (g.fp p) from r.obj p _ hl)
    · cases h
  · rename_i p m
    split at h
    · rename_i el' cs hp
      rw [cond_none] at h
      simp only [Bool.and_eq_true, Nat.ble_eq] at h
      obtain ⟨⟨he, hm⟩, h⟩ := h
      obtain rfl := Nat.eq_of_beq_eq_true he
      have hl := hH p _ hp
      obtain ⟨_, hx⟩ := hx
      rcases hx with hx | ⟨t2, cs2, b, h2, hv, rfl⟩
      · rw [r.dead _ hx] at hl; cases hl
      · obtain ⟨b', cur, hv', hb, hcs, hfp⟩ := r.obj p _ hl
        rw [hv] at hv'
        obtain rfl : b = b' := by simpa using hv'
        obtain ⟨C, tk, hrows, hlen⟩ := takeElems_rel r (fun q z hq => by
          rw [look_gone] at hq
          split at hq
          · cases hq
          · exact hH q z hq) h hcs
        have hlive : ∀ q ∈ C, q ≠ p ∧ ∃ x, look H q = some x ∧ lk q = some x := by
          intro q hq
          obtain ⟨_, _, _, h5⟩ := tk.arr q hq
          rw [look_gone] at h5
          split at h5
          · cases h5
          · rename_i hne
            exact ⟨fun e => hne e.symm, _, h5, hH _ _ h5⟩
        have hcl := hrows.len fun x c S h => Own.len h
        refine ⟨p :: C, b :: fps g C, ⟨by rw [tk.len, List.length_set], fun q => ?_, fun q hq => ?_, fun z hz => ?_, fun z hz => ?_⟩, .inr ⟨b, m, cur, cur.toList, fps g C, by rw [hlen], hb, by omega, by simp only [maxLen]; omega, ?_, ?_, hrows, rfl, List.nodup_cons.2 ⟨fun hm2 => ?_, ?_⟩⟩⟩
        · rw [tk.look, look_gone]
          by_cases hpo : p = q
          · subst hpo; simp
          · have : q ≠ p := fun e => hpo e.symm
            simp [hpo, this]
        · rcases List.mem_cons.1 hq with rfl | hq
          · exact ⟨_, hp⟩
          · obtain ⟨_, x, h5, _⟩ := hlive q hq
            exact ⟨x, h5⟩
        · rcases List.mem_cons.1 hz with rfl | hz
          · exact ⟨p, _, by simp, hl, by simp [hfp]⟩
          · obtain ⟨q, hq, h5⟩ := List.mem_flatMap.1 hz
            obtain ⟨_, x, _, h6⟩ := hlive q hq
            exact ⟨q, x, List.mem_cons_of_mem _ hq, h6, h5⟩
        · obtain rfl : z = b := by simpa using hz
          exact ⟨p, _, by simp, hl, by simp [tops, hfp]⟩
        · simpa [hlen] using hcl
        · rw [List.take_of_length_le (by omega)]
        · obtain ⟨q, hq, h5⟩ := List.mem_flatMap.1 hm2
          obtain ⟨hne, x, _, h6⟩ := hlive q hq
          exact r.dis q p x _ hne h6 hl b h5 (by simp [hfp])
        · refine fps_nodup r tk.nodup fun q hq => ?_
          obtain ⟨a1, a2, a3, h5⟩ := tk.arr q hq
          rw [look_gone] at h5
          split at h5
          · cases h5
          · exact ⟨a1, a2, a3, hH _ _ h5⟩
    · cases h
  · cases h
end Go.Proofs.YtglbaihiibdemaaGreatDoor.Am
