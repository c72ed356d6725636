/- What is proved here: append, whatever its source; literals of structs and slices. -/
import Derived.Test.YtglbaihiibdemaaGreatDoorAm8
namespace Go.Proofs.YtglbaihiibdemaaGreatDoor.Am
open Go
set_option autoImplicit false
variable {X : Ctx} {mine : Nat → Prop} {w w' : World} {g g' : Gh} {lk lk' : Nat → Option AObj} {E : Env} {a : Act} {n : Nat} {o : Oper}

/-- what is appended: m elements, and their cells -/
structure Src (P : Program) (w : World) (size m : Nat) (u : TypeId) (x : Value) (news : List Value) : Prop where
  ty : (∃ eu, P.underlying u = some (.slice eu)) ∨ P.underlying u = some .string
  lenOf : ∀ w, (Builtin.lenOf x).run P w = .ok m w
  hlen : news.length = m * size
  one : ∀ v ∈ news, v.oneCell' = true
  run : (Builtin.firstCells size m x).run P w = .ok news.toArray w ∧ (Builtin.firstCells size m x).run P w.drew = .ok news.toArray w.drew
theorem append_still {P : Program} {w : World} {t u ty e : TypeId} {i : TypeInfo} (ht : P.underlying t = some (.slice e)) (hi : P.info? e = some i) {x : Value} {news : List Value} (hs : Src P w i.size 0 u x news) (base : Option Addr) (k c : Nat) (hk : k ≤ c) :
    (Builtin.append_ #[t, u] ty #[.slice base k c, x]).run P w = .ok (.slice base k c) w := by
  have hn : news = [] := List.eq_nil_of_length_eq_zero (by simpa using hs.hlen)
  subst hn
  have h1 := hs.run.1
  have h2 := hs.lenOf w
  rcases hs.ty with ⟨eu, hu⟩ | hu <;> cases base <;> simp [Builtin.append_, run_underlying ht, run_underlying hu, sizeOf, typeInfo, hi, h1, h2, hk, storeCells]
theorem append_room {P : Program} {w : World} {t u ty e : TypeId} {i : TypeInfo} (ht : P.underlying t = some (.slice e)) (hi : P.info? e = some i) {x : Value} {news : List Value} {m : Nat} (hs : Src P w i.size m u x news) {gb k c : Nat} {cur : Array Value} (hg : w.heap[gb]? = some (.cells cur e (0, 0)))
    (hroom : k + m ≤ c) (hfit : k * i.size + news.length ≤ cur.size) :
    (Builtin.append_ #[t, u] ty #[.slice (some ⟨gb, 0, none⟩) k c, x]).run P w = .ok (.slice (some ⟨gb, 0, none⟩) (k + m) c) (w.setRow gb (cur.toList.take (k * i.size) ++ news ++ cur.toList.drop (k * i.size + news.length)).toArray) := by
  have h1 := hs.run.1
  have h2 := hs.lenOf w
  have hst := run_storeCells_at P gb (k * i.size) e news 0 cur w hg (by simpa using hfit) hs.one
  simp only [Nat.add_zero] at hst
  rcases hs.ty with ⟨eu, hu⟩ | hu <;> simp [Builtin.append_, run_underlying ht, run_underlying hu, sizeOf, typeInfo, hi, h1, h2, hroom, Addr.add_lit, hst]
theorem append_grow {P : Program} {w : World} {t u ty e : TypeId} {i : TypeInfo} {z : Value} (ht : P.underlying t = some (.slice e)) (hi : P.info? e = some i) (hz : i.zero = some z) {x : Value} {news : List Value} {m : Nat} (hs : Src P w i.size m u x news) {base : Option Addr} {k c : Nat} {olds : List Value}
    (ho : (Builtin.firstCells i.size k (.slice base k c)).run P w.drew = .ok olds.toArray w.drew) (hg : c < k + m) (h63 : ((k + m : Nat) : Int) ≤ 9223372036854775807) (hfit : Builtin.nextslicecap (k + m) c * i.bytes ≤ 281474976710656) :
    (Builtin.append_ #[t, u] ty #[.slice base k c, x]).run P w = .ok (.slice (some ⟨w.heap.size, 0, none⟩) (k + m) (grownCap w (k + m) c e)) (w.drew.alloc (.cells (olds.toArray ++ news.toArray ++ Builtin.zeroCells z.cells (grownCap w (k + m) c e - (k + m))) e)) := by
  have h1 := hs.run.2
  have h2 := hs.lenOf w
  have hn : ¬ (k + m ≤ c) := by omega
  have h63' : ¬ (9223372036854775807 < ((k : Int) + (m : Int))) := by omega
  have h48' : ¬ (281474976710656 < Builtin.nextslicecap (k + m) c * i.bytes) := by omega
  rcases hs.ty with ⟨eu, hu⟩ | hu <;> simp [Builtin.append_, run_underlying ht, run_underlying hu, sizeOf, typeInfo, zeroValue, hi, hz, h1, h2, hn, h63', h48', Question.forced, ho, newRow, grownCap] <;> (congr 2; apply Array.ext'; simp)
theorem nextcap_le (m c : Nat) (h : c < m) : Builtin.nextslicecap m c ≤ 2 * m := by
  unfold Builtin.nextslicecap
  split
  · omega
  · split
    · omega
    · rename_i h1 h2
      have key : ∀ (r x : Nat), 256 ≤ x → x ≤ 2 * m → Builtin.growBy m r x ≤ 2 * m := by
        intro r
        induction r with
        | zero => intro x _ hx; simpa [Builtin.growBy] using hx
        | succ r ih =>
          intro x h3 h4
          unfold Builtin.growBy
          split
          · exact h4
          · exact ih _ (by omega) (by omega)
      exact key 4 c (by omega) (by omega)
/-- the cells of a row that is read, one behind the other -/
theorem row_cells {okc : Nat → Prop} {e : Ty} {ad : Addr} (hs : ad.spot = none) : ∀ {xs : List e.den} (off : Nat), (∀ (i : Nat) (x : e.den), xs[i]? = some x → ∃ c, Rep w okc e x c ∧ ∀ (j : Nat) (u : Value), c[j]? = some u → w.cell? ⟨ad.block, ad.off + (off + i * e.n + j), none⟩ = some u) →
    ∃ news, Rows (fun x c S => Rep w okc e x c ∧ S = []) xs news [] ∧ news.length = xs.length * e.n ∧ ∀ (j : Nat) (u : Value), news[j]? = some u → w.cell? ⟨ad.block, ad.off + (off + j), none⟩ = some u
  | [], off, _ => ⟨[], ⟨rfl, rfl⟩, by simp, fun j u h => by simp at h⟩
  | x :: xs, off, h => by
    obtain ⟨c, hc, hcell⟩ := h 0 x rfl
    obtain ⟨news, h1, h2, h3⟩ := row_cells hs (xs := xs) (off + e.n) fun i y hy => by
      obtain ⟨d, hd, hcell⟩ := h (i + 1) y (by simpa using hy)
      refine ⟨d, hd, fun j u hu => ?_⟩
      have := hcell j u hu
      rw [show off + (i + 1) * e.n + j = off + e.n + i * e.n + j from by rw [Nat.succ_mul]; omega] at this
      exact this
    have hl := hc.len
    refine ⟨c ++ news, ⟨c, news, [], [], rfl, rfl, ⟨hc, rfl⟩, h1⟩, by rw [List.length_append, hl, h2, List.length_cons, Nat.succ_mul]; omega, fun j u hu => ?_⟩
    by_cases hj : j < c.length
    · rw [List.getElem?_append_left hj] at hu
      have := hcell j u hu
      simpa using this
    · rw [List.getElem?_append_right (by omega)] at hu
      have := h3 (j - c.length) u hu
      rw [show off + e.n + (j - c.length) = off + j from by omega] at this
      exact this
theorem src_slice {P : Program} {w : World} {okc : Nat → Prop} {t : Nat} {e : Ty} {xs : List e.den} {x : Value} (h : Rep w okc (.sl t e) xs [x]) {u eu : TypeId} (hu : P.underlying u = some (.slice eu)) {size : Nat} (hsz : size = e.n) :
    ∃ news, Src P w size xs.length u x news ∧ Rows (fun x c S => Rep w okc e x c ∧ S = []) xs news [] := by
  subst hsz
  obtain ⟨ao, cap, hv, hl, hr⟩ := h
  have hv : x = .slice ao xs.length cap := by simpa using hv
  subst hv
  have hpos := e.n_pos
  cases xs with
  | nil =>
    refine ⟨[], ⟨.inl ⟨_, hu⟩, fun _ => rfl, by simp, by simp, ?_⟩, ⟨rfl, rfl⟩⟩
    cases ao <;> simp [Builtin.firstCells, loadCells, loadCellsFrom]
  | cons y ys =>
    obtain ⟨ad, c0, rfl, hsp, _⟩ := hr 0 y rfl
    obtain ⟨news, h1, h2, h3⟩ := row_cells hsp (xs := y :: ys) 0 fun i z hz => by
      obtain ⟨ad', c, ha, _, _, hrep, hc⟩ := hr i z hz
      obtain rfl : ad = ad' := by simpa using ha
      exact ⟨c, hrep, fun j u hu => by simpa using hc j u hu⟩
    have hcell : ∀ j v, news[j]? = some v → w.cell? (ad.add j) = some v := fun j v hj => by
      have := h3 j v hj
      rw [addr_none hsp, add_none]
      simpa using this
    refine ⟨news, ⟨.inl ⟨_, hu⟩, fun _ => rfl, h2, h1.one (fun x c S h => h.1.one), ?_, ?_⟩, h1⟩
    · exact run_firstCells_some (P := P) w _ _ ad _ cap news h2 hcell
    · exact run_firstCells_some (P := P) w.drew _ _ ad _ cap news h2 (by simpa using hcell)
theorem src_string {P : Program} {w : World} {s : List UInt8} {u : TypeId} (hu : P.underlying u = some .string) : Src P w 1 s.length u (.string ⟨⟨s⟩⟩) (byteVals s) := by
  have key : ∀ w, (Builtin.firstCells 1 s.length (.string ⟨⟨s⟩⟩)).run P w = .ok (byteVals s).toArray w := by
    intro w
    have hx : (ByteArray.mk (Array.mk s)).extract 0 s.length = ByteArray.mk (Array.mk s) := by rw [str_extract]; simp
    simp [Builtin.firstCells, hx, byteVals]
  refine ⟨.inr hu, fun _ => rfl, by simp [byteVals], ?_, key w, key w.drew⟩
  intro v hv
  simp only [byteVals, List.mem_map] at hv
  obtain ⟨b, _, rfl⟩ := hv
  rfl

theorem tsize_info {P : Program} {t : TypeId} {n : Nat} (h : tsize P t = some n) {i : TypeInfo} (hi : P.info? t = some i) : i.size = n := by
  unfold tsize at h
  split at h
  · simpa [hi] using h
  · cases h
theorem Rows.imp' {α : Type} {R R' : α → List Value → List Nat → Prop} {xs : List α} {cs : List Value} {S : List Nat} (h : Rows R xs cs S) (hR : ∀ x c S', R x c S' → R' x c S') : Rows R' xs cs S := h.imp fun x c S' _ hx => hR x c S' hx
theorem Rows.append {α : Type} {R : α → List Value → List Nat → Prop} : ∀ {xs : List α} {cs : List Value} {S : List Nat} {ys : List α} {ds : List Value} {T : List Nat}, Rows R xs cs S → Rows R ys ds T → Rows R (xs ++ ys) (cs ++ ds) (S ++ T)
  | [], _, _, _, _, _, h, h' => by obtain ⟨rfl, rfl⟩ := h; exact h'
  | x :: xs, _, _, _, _, _, h, h' => by
    obtain ⟨c, cs', S1, S2, rfl, rfl, hx, hr⟩ := h
    exact ⟨c, _, S1, _, by rw [List.append_assoc], by rw [List.append_assoc], hx, hr.append h'⟩
/-- THE RESULT OF AN APPEND that makes a new row. -/
theorem own_grow {w : World} {e : Ty} {el : TypeId} {i : TypeInfo} {z : Value} (hsz : i.size = e.n) (hz : z.cells.size = e.n) {xs : List e.den} {olds : List Value} {T : List Nat} (h : Rows (Own w e) xs olds T) (hT : T.Nodup) {c : Nat} (h63 : xs.length ≤ maxLen) :
    Own (w.drew.alloc (.cells (olds.toArray ++ Builtin.zeroCells z.cells (grownCap w xs.length c el - xs.length)) el)) (.sl el e) xs [.slice (some ⟨w.heap.size, 0, none⟩) xs.length (grownCap w xs.length c el)] (w.heap.size :: T) := by
  have hl := h.len fun x c S h => Own.len h
  have hge := grownCap_ge w xs.length c el
  have hlt : ∀ b ∈ T, b < w.heap.size := by
    intro b hb
    have key : ∀ (xs : List e.den) (cs : List Value) (S : List Nat), Rows (Own w e) xs cs S → ∀ b ∈ S, b < w.heap.size := by
      intro xs
      induction xs with
      | nil => intro cs S h; obtain ⟨_, rfl⟩ := h; simp
      | cons x xs ih =>
        intro cs S h b hb
        obtain ⟨c, cs', S1, S2, rfl, rfl, hx, hr⟩ := h
        rcases List.mem_append.1 hb with hb | hb
        · exact Own.lt hx b hb
        · exact ih _ _ hr b hb
    exact key _ _ _ h b hb
  refine .inr ⟨w.heap.size, grownCap w xs.length c el, _, _, T, rfl, heap_alloc_new w.drew _, hge, grownCap_le_maxLen w xs.length c el h63, ?_, rfl, ?_, rfl, ?_⟩
  · simp only [Array.size_append, List.size_toArray, size_zeroCells, hz, hl, ← Nat.add_mul]
    congr 1
    omega
  · have : (olds.toArray ++ Builtin.zeroCells z.cells (grownCap w xs.length c el - xs.length)).toList.take (xs.length * e.n) = olds := by
      rw [Array.toList_append, ← hl]
      exact List.take_left
    rw [this]
    exact h.imp fun x c S hs hx => hx.move fun b hb => heap_alloc_old w.drew _ b (hlt b (hs b hb))
  · exact List.nodup_cons.2 ⟨fun hm => absurd (hlt _ hm) (by omega), hT⟩
theorem append_emp (h : Good X mine w g lk E a) (hfree : lk n = none ∧ ¬ g.dead n) {t u el : TypeId} {x y : Operand} (ho : o.op = .call { callee := .builtin .append, args := #[x, y], argTypes := #[t, u] }) (ht : telem X.P t = some el) (hx : E.ev x = .c .emp)
    {e : Ty} {i : TypeInfo} (hi : X.P.info? el = some i) {z : Value} (hz : i.zero = some z) (hzl : z.cells.size = e.n) (hs : tsize X.P el = some e.n) {ys : List e.den} {news : List Value} (hsrc : Src X.P w e.n ys.length u (a.eval y) news) (hrows : Rows (Own w e) ys news [])
    (h1 : (ys.length : Int) * i.bytes ≤ 140737488355328) (h2 : (ys.length : Int) ≤ 140737488355328) : Done X mine w g lk a n o (.c (.ref n)) [.arr el e ys] := by
  have hisz := tsize_info hs hi
  rw [← hisz] at hsrc
  have e1 := h.ev x
  rw [hx] at e1
  obtain ⟨ad, e1⟩ := e1
  cases ys with
  | nil =>
    refine done_arr h hfree (Kept.refl _ _) (v' := .slice ad 0 0) (S := []) (.inl ⟨ad, rfl, rfl, rfl⟩) (by simp) ?_
    simp [execOp, ho, resolve, invoke, builtin, e1, append_still (elem_run ht) hi hsrc ad 0 0 (Nat.le_refl _)]
  | cons y0 ys =>
    generalize hys : y0 :: ys = l at *
    have hpos : 0 < l.length := by subst hys; simp
    have hold : (Builtin.firstCells i.size 0 (.slice ad 0 0)).run X.P w.drew = .ok ([] : List Value).toArray w.drew := by cases ad <;> simp [Builtin.firstCells, loadCells, loadCellsFrom]
    have hnc := nextcap_le l.length 0 hpos
    have hrun := append_grow (elem_run ht) hi hz hsrc (base := ad) (k := 0) (c := 0) (ty := o.type) hold (by omega) (by omega) (by
      have h3 : ((l.length * i.bytes : Nat) : Int) ≤ 140737488355328 := by rw [Int.natCast_mul]; exact h1
      have h4 : Builtin.nextslicecap (0 + l.length) 0 * i.bytes ≤ 2 * l.length * i.bytes := Nat.mul_le_mul_right _ (by simpa using hnc)
      have h5 : 2 * l.length * i.bytes = 2 * (l.length * i.bytes) := by rw [Nat.mul_assoc]
      omega)
    simp only [Nat.zero_add, List.append_nil] at hrun
    have hown := own_grow (el := el) hisz hzl hrows (by simp) (c := 0) (by simp [maxLen]; omega)
    refine done_arr h hfree (w' := w.drew.alloc (.cells (news.toArray ++ Builtin.zeroCells z.cells (grownCap w l.length 0 el - l.length)) el)) ((Kept.drew [] w).trans (Kept.alloc [] _ _) (by simp) (by simp)) hown (by simp) ?_
    simp [execOp, ho, resolve, invoke, builtin, e1, hrun]
end Go.Proofs.YtglbaihiibdemaaGreatDoor.Am
