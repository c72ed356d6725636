/- What is proved here: what a contract of a callee says; a call by contract; and all operations that change nothing that is there, together. -/
import Derived.Test.YtglbaihiibdemaaGreatDoorAm10
namespace Go.Proofs.YtglbaihiibdemaaGreatDoor.Am
open Go
set_option autoImplicit false
variable {X : Ctx} {mine : Nat → Prop} {w w' : World} {g g' : Gh} {lk lk' : Nat → Option AObj} {E : Env} {a : Act} {n : Nat} {o : Oper}

def ArgVal (agg : Bool) (v : Value) (cs : List Value) : Prop := if agg then v = .agg cs.toArray else cs = [v]
/-- The arguments of a call, as a callee finds them: what it reads; what it is handed for good; what it may write (M: the blocks of the two latter). -/
def ArgRel (w : World) (okc : Nat → Prop) : (ps : List Par) → List Value → TakD ps → ValD ps → List Nat → Prop
  | [], vs, _, _, M => vs = [] ∧ M = []
  | ⟨.val, agg, t⟩ :: r, vs, td, vd, M => ∃ v vs' cs, vs = v :: vs' ∧ ArgVal agg v cs ∧ Rep w okc t vd.1 cs ∧ ArgRel w okc r vs' td vd.2 M
  | ⟨.own, agg, t⟩ :: r, vs, td, vd, M => ∃ v vs' cs S M', vs = v :: vs' ∧ ArgVal agg v cs ∧ Own w t td.1 cs S ∧ M = S ++ M' ∧ ArgRel w okc r vs' td.2 vd M'
  | ⟨.mutp tid, _, t⟩ :: r, vs, td, vd, M => ∃ vs' b cur S M', vs = .pointer (some ⟨b, 0, none⟩) :: vs' ∧ w.heap[b]? = some (.cells cur tid (0, 0)) ∧ Own w t td.1 cur.toList S ∧ M = b :: S ++ M' ∧ ArgRel w okc r vs' td.2 vd M'
/-- The results, in memory that is nobody else's. -/
def ResL (w : World) : (rs : List (Bool × Ty)) → ResD rs → List Value → List Nat → Prop
  | [], _, vs, S => vs = [] ∧ S = []
  | (agg, t) :: r, rd, vs, S => ∃ v vs' cs S1 S2, vs = v :: vs' ∧ S = S1 ++ S2 ∧ ArgVal agg v cs ∧ Own w t rd.1 cs S1 ∧ ResL w r rd.2 vs' S2
/-- What has become of what it might write. -/
def MutRel (w : World) : (ps : List Par) → List Value → MutD ps → List Nat → Prop
  | [], _, _, T => T = []
  | ⟨.val, _, _⟩ :: r, vs, md, T => MutRel w r vs.tail md T
  | ⟨.own, _, _⟩ :: r, vs, md, T => MutRel w r vs.tail md T
  | ⟨.mutp tid, _, t⟩ :: r, vs, md, T => ∃ vs' b cur S T', vs = .pointer (some ⟨b, 0, none⟩) :: vs' ∧ w.heap[b]? = some (.cells cur tid (0, 0)) ∧ Own w t md.1 cur.toList S ∧ T = b :: S ++ T' ∧ MutRel w r vs' md.2 T'
def retV : List Value → Value
  | [v] => v
  | vs => .tuple vs.toArray
/-- THE CONTRACT: called with such arguments it returns, the results are what the function on data says, and nothing else has turned. -/
def Sound (P : Program) (G : Glob) (f : FuncId) (s : Sig) : Prop := ∀ (w : World) (vs : List Value) (td : TakD s.ps) (vd : ValD s.ps) (M : List Nat) (md : MutD s.ps) (rd : ResD s.rs),
  ArgRel w (fun b => b < w.heap.size ∧ b ∉ M) s.ps vs td vd M → M.Nodup → G.ok w → s.fn td vd = some (md, rd) →
  Calls P f vs.toArray w fun e w' => ∃ rvs S T, e = .returned (retV rvs) ∧ Kept M w w' ∧ ResL w' s.rs rd rvs S ∧ MutRel w' s.ps vs md T ∧ (S ++ T).Nodup ∧ ∀ b ∈ S ++ T, b ∈ M ∨ w.heap.size ≤ b
def Enters (P : Program) (f : FuncId) : Prop := ∀ args w, (callFunc f args).run P w = .ok (.enter f args) w
/-- a builder of strings in memory -/
def BldAt (X : Ctx) (w : World) (b : Nat) (bs : List UInt8) (v : Value) : Prop := ∃ p, (p = .pointer none ∨ p = .pointer (some ⟨b, 0, none⟩)) ∧ w.heap[b]? = some (.cells #[p, v] X.bld (0, 0)) ∧ w.ownsRowF 0 X.u8 1 v bs.length (byteVals bs) ∧ (b :: v.ownBlock.toList).Nodup
def BldWriteOk (X : Ctx) (f : FuncId) : Prop := ∀ (w : World) (b : Nat) (bs s : List UInt8) (v : Value), BldAt X w b bs v → bs.length + s.length ≤ 140737488355328 →
  Calls X.P f #[.pointer (some ⟨b, 0, none⟩), .string ⟨⟨s⟩⟩] w fun e w' => e = .returned (.tuple #[.int .i64 s.length, .nilIface]) ∧ Kept (b :: v.ownBlock.toList) w w' ∧ ∃ v', BldAt X w' b (bs ++ s) v' ∧ ∀ q ∈ v'.ownBlock.toList, q ∈ v.ownBlock.toList ∨ w.heap.size ≤ q
def BldStringOk (X : Ctx) (f : FuncId) : Prop := ∀ (w : World) (b : Nat) (bs : List UInt8) (v : Value), BldAt X w b bs v →
  Calls X.P f #[.pointer (some ⟨b, 0, none⟩)] w fun e w' => e = .returned (.string ⟨⟨bs⟩⟩) ∧ Kept (b :: v.ownBlock.toList) w w' ∧ ∃ v', BldAt X w' b bs v' ∧ ∀ q ∈ v'.ownBlock.toList, q ∈ v.ownBlock.toList ∨ w.heap.size ≤ q
structure TabOk (X : Ctx) : Prop where
  ctx : CtxOk X
  sig : ∀ f s, X.S f = .sig s → Sound X.P X.G f s ∧ Enters X.P f
  bldW : ∀ f, X.S f = .bldWrite → BldWriteOk X f ∧ Enters X.P f
  bldS : ∀ f, X.S f = .bldString → BldStringOk X f ∧ Enters X.P f
  inl : ∀ f, X.S f = .inl → Enters X.P f

theorem disj_of_nodup : ∀ {L : List (List Nat)}, L.flatten.Nodup → Disj L
  | [], _ => trivial
  | S :: r, h => by
    rw [List.flatten_cons, List.nodup_append] at h
    exact ⟨h.1, fun b hb T hT hbT => h.2.2 b hb b (List.mem_flatten.2 ⟨T, hT, hbT⟩) rfl, disj_of_nodup h.2.1⟩
theorem mem_flatten_snd {L : List (Value × List Nat)} {S : List Nat} (h : (L.map (·.2)).flatten = S) {p : Value × List Nat} (hp : p ∈ L) : ∀ b ∈ p.2, b ∈ S := fun b hb => h ▸ List.mem_flatten.2 ⟨p.2, List.mem_map.2 ⟨p, hp, rfl⟩, hb⟩
/-- new data, as new objects -/
structure Thawed (w : World) (N : List AObj) (n : Nat) (S : List Nat) (L : List (Value × List Nat)) (R : (Nat → Prop) → Gh → (Nat → Option AObj) → Prop) : Prop where
  len : L.length = N.length
  fps : (L.map (·.2)).flatten = S
  obj : ∀ (i : Nat) (x : AObj) (p : Value × List Nat), N[i]? = some x → L[i]? = some p → ∃ tid e xs, x = .arr tid e xs ∧ Own w (.sl tid e) xs [p.1] p.2
  rel : ∀ ok g lk, (∀ (i : Nat) (x : AObj) (p : Value × List Nat), N[i]? = some x → L[i]? = some p → lk (n + i) = some x ∧ g.val (n + i) = p.1) → R ok g lk
theorem Thawed.append {w : World} {N1 N2 : List AObj} {n : Nat} {S1 S2 : List Nat} {L1 L2 : List (Value × List Nat)} {R1 R2 R : (Nat → Prop) → Gh → (Nat → Option AObj) → Prop} (h1 : Thawed w N1 n S1 L1 R1) (h2 : Thawed w N2 (n + N1.length) S2 L2 R2) (hR : ∀ ok g lk, R1 ok g lk → R2 ok g lk → R ok g lk) :
    Thawed w (N1 ++ N2) n (S1 ++ S2) (L1 ++ L2) R := by
  refine ⟨by simp [h1.len, h2.len], by simp [h1.fps, h2.fps], fun i x p hx hp => ?_, fun ok g lk h => hR ok g lk (h1.rel ok g lk fun i x p hx hp => ?_) (h2.rel ok g lk fun i x p hx hp => ?_)⟩
  · by_cases hi : i < N1.length
    · rw [List.getElem?_append_left hi] at hx
      rw [List.getElem?_append_left (by rw [h1.len]; exact hi)] at hp
      exact h1.obj i x p hx hp
    · rw [List.getElem?_append_right (by omega)] at hx
      rw [List.getElem?_append_right (by rw [h1.len]; omega), h1.len] at hp
      exact h2.obj _ x p hx hp
  · have hi := (List.getElem?_eq_some_iff.1 hx).1
    exact h i x p (by rw [List.getElem?_append_left hi]; exact hx) (by rw [List.getElem?_append_left (by rw [h1.len]; exact hi)]; exact hp)
  · have := h (N1.length + i) x p (by rw [List.getElem?_append_right (by omega), Nat.add_sub_cancel_left]; exact hx) (by rw [List.getElem?_append_right (by rw [h1.len]; omega), h1.len, Nat.add_sub_cancel_left]; exact hp)
    rwa [← Nat.add_assoc] at this
theorem Thawed.none {w : World} {n : Nat} {R : (Nat → Prop) → Gh → (Nat → Option AObj) → Prop} (h : ∀ ok g lk, R ok g lk) : Thawed w [] n [] [] R := ⟨rfl, rfl, fun i x p hx => by simp at hx, fun ok g lk _ => h ok g lk⟩
theorem thaw_rel {w : World} : ∀ {t : Ty} {x : t.den} {cs : List Value} {S : List Nat} (n : Nat), Own w t x cs S → ∃ L, Thawed w (thaw t x n).2 n S L fun ok g lk => All2 (CVRel w ok g lk) (thaw t x n).1 cs
  | .int _, _, _, _, n, h => by obtain ⟨rfl, rfl⟩ := h; exact ⟨[], Thawed.none fun _ _ _ => ⟨rfl, trivial⟩⟩
  | .bool, _, _, _, n, h => by obtain ⟨rfl, rfl⟩ := h; exact ⟨[], Thawed.none fun _ _ _ => ⟨rfl, trivial⟩⟩
  | .str, _, _, _, n, h => by obtain ⟨rfl, rfl⟩ := h; exact ⟨[], Thawed.none fun _ _ _ => ⟨rfl, trivial⟩⟩
  | .sl tid e, xs, cs, S, n, h => by
    obtain ⟨v, rfl⟩ : ∃ v, cs = [v] := by rcases h with ⟨_, rfl, _⟩ | ⟨_, _, _, _, _, rfl, _⟩ <;> exact ⟨_, rfl⟩
    refine ⟨[(v, S)], rfl, by simp, fun i x p hx hp => ?_, fun ok g lk hh => ?_⟩
    · obtain rfl : i = 0 := by have := (List.getElem?_eq_some_iff.1 hx).1; simpa [thaw] using this
      obtain rfl : x = _ := by simpa [thaw] using hx.symm
      obtain rfl : p = _ := by simpa using hp.symm
      exact ⟨tid, e, xs, rfl, h⟩
    · obtain ⟨h1, h2⟩ := hh 0 _ (v, S) rfl rfl
      exact ⟨⟨h.one v (by simp), .inr ⟨tid, e, xs, h1, h2.symm⟩⟩, trivial⟩
  | .pair p q, x, cs, S, n, h => by
    obtain ⟨c, d, S1, S2, rfl, rfl, hn, h1, h2⟩ := h
    obtain ⟨L1, t1⟩ := thaw_rel n h1
    obtain ⟨L2, t2⟩ := thaw_rel (n + (thaw p x.1 n).2.length) h2
    exact ⟨L1 ++ L2, t1.append t2 fun _ _ _ h3 h4 => h3.append h4⟩
theorem argVal_res {agg : Bool} {v : Value} {cs : List Value} {ds : List CV} {ok : Nat → Prop} (h : ArgVal agg v cs) (hc : All2 (CVRel w ok g lk) ds cs) : ResR w ok g lk (agg, ds) v := by
  cases agg with
  | true => exact ⟨cs.toArray, by simpa [ArgVal] using h, by simpa using hc⟩
  | false =>
    simp [ArgVal] at h
    subst h
    match ds, hc with
    | [d], hc => exact ⟨d, rfl, hc.1⟩
theorem thawRes_rel {w : World} : ∀ {rs : List (Bool × Ty)} {rd : ResD rs} {vs : List Value} {S : List Nat} (n : Nat), ResL w rs rd vs S → ∃ L, Thawed w (thawRes rs rd n).2 n S L fun ok g lk => All2 (ResR w ok g lk) (thawRes rs rd n).1 vs
  | [], _, _, _, n, h => by obtain ⟨rfl, rfl⟩ := h; exact ⟨[], Thawed.none fun _ _ _ => trivial⟩
  | (agg, t) :: r, rd, vs, S, n, h => by
    obtain ⟨v, vs', cs, S1, S2, rfl, rfl, hv, h1, h2⟩ := h
    obtain ⟨L1, t1⟩ := thaw_rel n h1
    obtain ⟨L2, t2⟩ := thawRes_rel (n + (thaw t rd.1 n).2.length) h2
    exact ⟨L1 ++ L2, t1.append t2 fun _ _ _ h3 h4 => ⟨argVal_res hv h3, h4⟩⟩
theorem resAV_rel {w : World} {ok : Nat → Prop} {l : List (Bool × List CV)} {vs : List Value} (h : All2 (ResR w ok g lk) l vs) : AVRel w ok g lk (resAV l) (retV vs) := by
  match l, vs, h with
  | [], [], h => exact ⟨#[], rfl, trivial⟩
  | [(b, cs)], [v], h =>
    have := h.1
    cases b with
    | true => exact this
    | false =>
      obtain ⟨c, h8, h9⟩ := this
      subst h8
      exact h9
  | p :: q :: l, v :: u :: vs, h => exact ⟨(v :: u :: vs).toArray, rfl, h⟩
theorem argCells_val {agg : Bool} {v : AV} {u : Value} {cs : List CV} {ok : Nat → Prop} (h : argCells agg v = some cs) (hv : AVRel w ok g lk v u) : ∃ ds, ArgVal agg u ds ∧ All2 (CVRel w ok g lk) cs ds := by
  unfold argCells at h
  split at h
  · obtain rfl : _ = cs := by simpa using h
    obtain ⟨vs, rfl, hv⟩ := hv
    exact ⟨vs.toList, by simp [ArgVal], hv⟩
  · obtain rfl : _ = cs := by simpa using h
    exact ⟨[u], by simp [ArgVal], ⟨hv, trivial⟩⟩
  · cases h
theorem snapArgs_rel {okc : Nat → Prop} {ok : Nat → Prop} (hr : Reads w ok g lk okc) (hd : ∀ o, g.dead o → lk o = none) : ∀ {ps : List Par} {args : List AV} {vd : ValD ps} {td : TakD ps} {vs : List Value}, (ps.all fun p => match p.mode with | .val => true | _ => false) = true → snapArgs lk ps args = some vd → All2 (AVRel w ok g lk) args vs → ArgRel w okc ps vs td vd []
  | [], [], _, _, [], _, _, _ => ⟨rfl, rfl⟩
  | ⟨.val, agg, t⟩ :: r, v :: args, vd, td, u :: vs, hp, h, hv => by
    simp only [snapArgs, Option.bind_eq_some_iff] at h
    obtain ⟨cs, hcs, ⟨x, rr⟩, hx, h⟩ := h
    obtain ⟨ds, h1, h2⟩ := argCells_val hcs hv.1
    obtain ⟨v1, v2, rfl, h3, h4⟩ := snapN_rep hr hd hx h2
    simp only at h
    split at h
    · simp only [Option.bind_eq_some_iff, Option.some.injEq] at h
      obtain ⟨y, hy, rfl⟩ := h
      have : v2 = [] := by cases v2 with | nil => rfl | cons _ _ => exact h4.elim
      subst this
      rw [List.append_nil] at h1
      exact ⟨u, vs, v1, rfl, h1, h3, snapArgs_rel hr hd (by simpa using hp) hy hv.2⟩
    · cases h
  | ⟨.own, _, _⟩ :: r, _ :: _, _, _, _, hp, _, _ => by simp at hp
  | ⟨.mutp _, _, _⟩ :: r, _ :: _, _, _, _, hp, _, _ => by simp at hp
  | [], _ :: _, _, _, _, _, h, _ => by simp [snapArgs] at h
  | ⟨.val, _, _⟩ :: _, [], _, _, _, _, h, _ => by simp [snapArgs] at h
  | ⟨.own, _, _⟩ :: _, [], _, _, _, _, h, _ => by simp [snapArgs] at h
  | ⟨.mutp _, _, _⟩ :: _, [], _, _, _, _, h, _ => by simp [snapArgs] at h
  | [], [], _, _, _ :: _, _, _, hv => hv.elim
  | ⟨.val, _, _⟩ :: _, _ :: _, _, _, [], _, _, hv => hv.elim
/-- what an operation comes to, whichever it is -/
def DoneW (X : Ctx) (mine : Nat → Prop) (w : World) (g : Gh) (lk : Nat → Option AObj) (a : Act) (n : Nat) (o : Oper) (v : AV) (N : List AObj) : Prop :=
  ∀ (K : Act → World → Prop) (Q : Exit → Act → World → Prop), (∀ v' w' g', Grows X mine w w' g g' lk (lkAdd lk n N) → AVRel w' (okB w' g' (lkAdd lk n N)) g' (lkAdd lk n N) v v' → K (a.put o.dst v') w') → o.wp X.P a w K Q
theorem Done.toW {v : AV} {N : List AObj} (h : Done X mine w g lk a n o v N) : DoneW X mine w g lk a n o v N := by
  obtain ⟨v', w', g', h1, h2, h3⟩ := h
  intro K Q hK
  unfold Oper.wp
  rw [h1]
  exact hK v' w' g' h2 h3
end Go.Proofs.YtglbaihiibdemaaGreatDoor.Am
