/- What is proved here: how abstract values and heaps stand for the model's values and worlds, and which steps of the world keep that. -/
import Derived.Test.YtglbaihiibdemaaGreatDoorAm3
import Derived.Lib.FrozenHead
namespace Go.Proofs.YtglbaihiibdemaaGreatDoor.Am
open Go
set_option autoImplicit false

def All2 {α β : Type} (R : α → β → Prop) : List α → List β → Prop
  | [], [] => True
  | a :: l, b :: m => R a b ∧ All2 R l m
  | _, _ => False
theorem All2.imp {α β : Type} {R R' : α → β → Prop} : ∀ {l : List α} {m : List β}, All2 R l m → (∀ a ∈ l, ∀ b ∈ m, R a b → R' a b) → All2 R' l m
  | [], [], _, _ => trivial
  | a :: l, b :: m, h, hR => ⟨hR a List.mem_cons_self b List.mem_cons_self h.1, h.2.imp fun a ha b hb => hR a (List.mem_cons_of_mem _ ha) b (List.mem_cons_of_mem _ hb)⟩
  | [], _ :: _, h, _ => h.elim
  | _ :: _, [], h, _ => h.elim
theorem All2.len {α β : Type} {R : α → β → Prop} : ∀ {l : List α} {m : List β}, All2 R l m → l.length = m.length
  | [], [], _ => rfl
  | _ :: _, _ :: _, h => by simp [h.2.len]
  | [], _ :: _, h => h.elim
  | _ :: _, [], h => h.elim
theorem All2.get {α β : Type} {R : α → β → Prop} : ∀ {l : List α} {m : List β}, All2 R l m → ∀ (i : Nat) (a : α), l[i]? = some a → ∃ b, m[i]? = some b ∧ R a b
  | a :: l, b :: m, h, 0, x, hx => by simp at hx; subst hx; exact ⟨b, by simp, h.1⟩
  | a :: l, b :: m, h, i + 1, x, hx => by obtain ⟨y, h1, h2⟩ := h.2.get i x (by simpa using hx); exact ⟨y, by simpa using h1, h2⟩
  | [], [], _, i, x, hx => by simp at hx
  | [], _ :: _, h, _, _, _ => h.elim
  | _ :: _, [], h, _, _, _ => h.elim
theorem All2.append {α β : Type} {R : α → β → Prop} : ∀ {l : List α} {m : List β} {l' : List α} {m' : List β}, All2 R l m → All2 R l' m' → All2 R (l ++ l') (m ++ m')
  | [], [], _, _, _, h => h
  | _ :: _, _ :: _, _, _, h, h' => ⟨h.1, h.2.append h'⟩
  | [], _ :: _, _, _, h, _ => h.elim
  | _ :: _, [], _, _, h, _ => h.elim
theorem All2.take {α β : Type} {R : α → β → Prop} : ∀ {l : List α} {m : List β}, All2 R l m → ∀ n, All2 R (l.take n) (m.take n)
  | [], [], _, n => by simp [All2]
  | _ :: _, _ :: _, _, 0 => by simp [All2]
  | _ :: _, _ :: _, h, n + 1 => ⟨h.1, h.2.take n⟩
  | [], _ :: _, h, _ => h.elim
  | _ :: _, [], h, _ => h.elim
theorem All2.drop {α β : Type} {R : α → β → Prop} : ∀ {l : List α} {m : List β}, All2 R l m → ∀ n, All2 R (l.drop n) (m.drop n)
  | [], [], _, n => by simp [All2]
  | _ :: _, _ :: _, h, 0 => h
  | _ :: _, _ :: _, h, n + 1 => h.2.drop n
  | [], _ :: _, h, _ => h.elim
  | _ :: _, [], h, _ => h.elim
theorem All2.split {α β : Type} {R : α → β → Prop} : ∀ {l l' : List α} {m : List β}, All2 R (l ++ l') m → ∃ m1 m2, m = m1 ++ m2 ∧ All2 R l m1 ∧ All2 R l' m2
  | [], _, m, h => ⟨[], m, rfl, trivial, h⟩
  | a :: l, l', b :: m, h => by
    obtain ⟨m1, m2, rfl, h1, h2⟩ := All2.split (l := l) h.2
    exact ⟨b :: m1, m2, rfl, ⟨h.1, h1⟩, h2⟩
  | _ :: _, _, [], h => h.elim

/-- What an abstract state stands for: of each object its value (a slice, or a pointer), and its blocks; which objects are used up; the pointers to what was handed over. -/
structure Gh where
  val : Nat → Value
  fp : Nat → List Nat
  dead : Nat → Prop
  mv : Nat → Value

/-- the blocks of an object in which something may be written (the blocks of what lies deeper stay as they are) -/
def tops (fp : List Nat) : AObj → List Nat
  | .arr _ _ _ => fp.take 1
  | .box _ _ => fp
  | .bld _ => fp
  | .gone => []
/-- A block in which nothing is written. -/
def okB (w : World) (g : Gh) (lk : Nat → Option AObj) (b : Nat) : Prop := b < w.heap.size ∧ ∀ o x, lk o = some x → b ∉ tops (g.fp o) x
def PtrOk (v : Value) (gv : Value) (i off : Nat) : AObj → Prop
  | .box _ _ => i = 0 → ∃ b, gv = .pointer (some ⟨b, 0, none⟩) ∧ v = .pointer (some ⟨b, off, none⟩)
  | .arr _ e xs => i < xs.length ∧ ∃ b n c, gv = .slice (some ⟨b, 0, none⟩) n c ∧ v = .pointer (some ⟨b, i * e.n + off, none⟩)
  | .bld _ => i = 0 → off = 0 → v = gv
  | .gone => True
def CVRel (w : World) (ok : Nat → Prop) (g : Gh) (lk : Nat → Option AObj) : CV → Value → Prop
  | .undef, v => v.oneCell' = true
  | .int k n, v => v = .int k n
  | .bool b, v => v = .bool b
  | .str s, v => v = .string ⟨⟨s⟩⟩
  | .bor e xs, v => Rep w ok (.sl 0 e) xs [v]
  | .emp, v => ∃ a, v = .slice a 0 0
  | .ref o, v => v.oneCell' = true ∧ (g.dead o ∨ ∃ t e xs, lk o = some (.arr t e xs) ∧ v = g.val o)
  | .tsl o n, v => (∃ ad, v = .slice (some ad) n n) ∧ (g.dead o ∨ ∃ t cs b, lk o = some (.box t cs) ∧ g.val o = .pointer (some ⟨b, 0, none⟩) ∧ v = .slice (some ⟨b, 0, none⟩) n n)
  | .ptr o i off, v => (∃ ad, v = .pointer (some ad)) ∧ (g.dead o ∨ ∃ x, lk o = some x ∧ PtrOk v (g.val o) i off x)
  | .bptr t x, v => ∃ ad c, v = .pointer (some ad) ∧ ad.spot = none ∧ ok ad.block ∧ Rep w ok t x c ∧ ∀ (j : Nat) (u : Value), c[j]? = some u → w.cell? ⟨ad.block, ad.off + j, none⟩ = some u
  | .nilp, v => v = .pointer none
def ResR (w : World) (ok : Nat → Prop) (g : Gh) (lk : Nat → Option AObj) (p : Bool × List CV) (v : Value) : Prop :=
  match p with
  | (true, cs) => ∃ vs : Array Value, v = .agg vs ∧ All2 (CVRel w ok g lk) cs vs.toList
  | (false, cs) => ∃ c, cs = [c] ∧ CVRel w ok g lk c v
def AVRel (w : World) (ok : Nat → Prop) (g : Gh) (lk : Nat → Option AObj) : AV → Value → Prop
  | .undef, _ => True
  | .skip, v => v = undef
  | .c x, v => CVRel w ok g lk x v
  | .mix cs, v => ∃ vs : Array Value, v = .agg vs ∧ All2 (CVRel w ok g lk) cs vs.toList
  | .tup l, v => ∃ vs : Array Value, v = .tuple vs ∧ All2 (ResR w ok g lk) l vs.toList
  | .fn f caps, v => ∃ vs : Array Value, v = .func (.func f) #[] vs ∧ All2 (CVRel w ok g lk) caps vs.toList
def byteVals (s : List UInt8) : List Value := s.map fun b => .int .u8 b.toNat
def ObjRel (X : Ctx) (w : World) (ok : Nat → Prop) (g : Gh) (lk : Nat → Option AObj) (o : Nat) : AObj → Prop
  | .arr tid e xs => Own w (.sl tid e) xs [g.val o] (g.fp o)
  | .box tid cs => ∃ b cur, g.val o = .pointer (some ⟨b, 0, none⟩) ∧ w.heap[b]? = some (.cells cur tid (0, 0)) ∧ All2 (CVRel w ok g lk) cs cur.toList ∧ g.fp o = [b]
  | .bld s => ∃ b p v, g.val o = .pointer (some ⟨b, 0, none⟩) ∧ (p = .pointer none ∨ p = .pointer (some ⟨b, 0, none⟩)) ∧ w.heap[b]? = some (.cells #[p, v] X.bld (0, 0)) ∧
      w.ownsRowF 0 X.u8 1 v s.length (byteVals s) ∧ g.fp o = b :: v.ownBlock.toList ∧ (g.fp o).Nodup
  | .gone => False
structure HRel (X : Ctx) (mine : Nat → Prop) (w : World) (g : Gh) (lk : Nat → Option AObj) : Prop where
  obj : ∀ o x, lk o = some x → ObjRel X w (okB w g lk) g lk o x
  own : ∀ o x, lk o = some x → ∀ b ∈ g.fp o, b < w.heap.size ∧ mine b
  dis : ∀ o o' x x', o ≠ o' → lk o = some x → lk o' = some x' → ∀ b ∈ g.fp o, b ∉ g.fp o'
  dead : ∀ o, g.dead o → lk o = none

theorem CVRel.one {w : World} {ok : Nat → Prop} {g : Gh} {lk : Nat → Option AObj} {c : CV} {v : Value} (h : CVRel w ok g lk c v) : v.oneCell' = true := by
  cases c with
  | undef => exact h
  | int => simp only [CVRel] at h; subst h; rfl
  | bool => simp only [CVRel] at h; subst h; rfl
  | str => simp only [CVRel] at h; subst h; rfl
  | bor => exact Rep.one h v (by simp)
  | emp => obtain ⟨a, rfl⟩ := h; rfl
  | ref => exact h.1
  | tsl => obtain ⟨⟨ad, rfl⟩, _⟩ := h; rfl
  | ptr => obtain ⟨⟨ad, rfl⟩, _⟩ := h; rfl
  | bptr => obtain ⟨ad, c, rfl, _⟩ := h; rfl
  | nilp => simp only [CVRel] at h; subst h; rfl
/-- objects of one kind and one size -/
def Alike : AObj → AObj → Prop
  | .arr t e xs, y => ∃ ys : List e.den, y = .arr t e ys ∧ ys.length = xs.length
  | .box t _, y => ∃ cs, y = .box t cs
  | .bld _, y => ∃ s, y = .bld s
  | .gone, _ => True
theorem Alike.refl : ∀ x : AObj, Alike x x
  | .arr _ _ xs => ⟨xs, rfl, rfl⟩
  | .box _ cs => ⟨cs, rfl⟩
  | .bld s => ⟨s, rfl⟩
  | .gone => trivial
theorem PtrOk.alike {v gv : Value} {i off : Nat} {x y : AObj} (h : PtrOk v gv i off x) (ha : Alike x y) (hg : x ≠ .gone) : PtrOk v gv i off y := by
  cases x with
  | arr t e xs => obtain ⟨ys, rfl, hl⟩ := ha; simp only [PtrOk] at h ⊢; rw [hl]; exact h
  | box t cs => obtain ⟨ys, rfl⟩ := ha; exact h
  | bld s => obtain ⟨ys, rfl⟩ := ha; exact h
  | gone => exact absurd rfl hg
/-- what carries values from one state to another -/
structure Moves (w w' : World) (ok ok' : Nat → Prop) (g g' : Gh) (lk lk' : Nat → Option AObj) : Prop where
  mok : ∀ b, ok b → ok' b
  blk : ∀ b, ok b → w'.heap[b]? = w.heap[b]?
  dead : ∀ o, g.dead o → g'.dead o
  obj : ∀ o x, lk o = some x → g'.dead o ∨ (g'.val o = g.val o ∧ ∃ y, lk' o = some y ∧ Alike x y)
  live : ∀ o, lk o ≠ some .gone
variable {w w' : World} {ok ok' : Nat → Prop} {g g' : Gh} {lk lk' : Nat → Option AObj}
theorem Moves.cv (m : Moves w w' ok ok' g g' lk lk') {c : CV} {v : Value} (h : CVRel w ok g lk c v) : CVRel w' ok' g' lk' c v := by
  cases c with
  | bor e xs => exact Rep.move m.mok m.blk h
  | ref o =>
    refine ⟨h.1, ?_⟩
    rcases h.2 with h2 | ⟨t, e, xs, h2, h3⟩
    · exact .inl (m.dead _ h2)
    · rcases m.obj _ _ h2 with h4 | ⟨h4, y, h5, ys, rfl, _⟩
      · exact .inl h4
      · exact .inr ⟨t, e, ys, h5, h4 ▸ h3⟩
  | tsl o n =>
    refine ⟨h.1, ?_⟩
    rcases h.2 with h2 | ⟨t, cs, b, h2, h3, h6⟩
    · exact .inl (m.dead _ h2)
    · rcases m.obj _ _ h2 with h4 | ⟨h4, y, h5, ys, rfl⟩
      · exact .inl h4
      · exact .inr ⟨t, ys, b, h5, h4 ▸ h3, h6⟩
  | ptr o i off =>
    refine ⟨h.1, ?_⟩
    rcases h.2 with h2 | ⟨x, h2, h3⟩
    · exact .inl (m.dead _ h2)
    · rcases m.obj _ _ h2 with h4 | ⟨h4, y, h5, h6⟩
      · exact .inl h4
      · exact .inr ⟨y, h5, by rw [h4]; exact h3.alike h6 (fun e => m.live o (e ▸ h2))⟩
  | bptr t x =>
    obtain ⟨ad, c, rfl, hs, ho, hr, hc⟩ := h
    exact ⟨ad, c, rfl, hs, m.mok _ ho, Rep.move m.mok m.blk hr, fun j u hu => (World.cell?_of_block (w := w) (a := ⟨ad.block, ad.off + j, none⟩) (m.blk _ ho)).trans (hc j u hu)⟩
  | undef => exact h
  | int => exact h
  | bool => exact h
  | str => exact h
  | emp => exact h
  | nilp => exact h
theorem Moves.res (m : Moves w w' ok ok' g g' lk lk') {p : Bool × List CV} {v : Value} (h : ResR w ok g lk p v) : ResR w' ok' g' lk' p v := by
  obtain ⟨b, cs⟩ := p
  cases b with
  | true => obtain ⟨vs, rfl, h⟩ := h; exact ⟨vs, rfl, h.imp fun _ _ _ _ h => m.cv h⟩
  | false => obtain ⟨c, rfl, h⟩ := h; exact ⟨c, rfl, m.cv h⟩
theorem Moves.av (m : Moves w w' ok ok' g g' lk lk') {x : AV} {v : Value} (h : AVRel w ok g lk x v) : AVRel w' ok' g' lk' x v := by
  cases x with
  | undef => trivial
  | skip => exact h
  | c x => exact m.cv h
  | mix cs => obtain ⟨vs, rfl, h⟩ := h; exact ⟨vs, rfl, h.imp fun _ _ _ _ h => m.cv h⟩
  | tup l => obtain ⟨vs, rfl, h⟩ := h; exact ⟨vs, rfl, h.imp fun _ _ _ _ h => m.res h⟩
  | fn f caps => obtain ⟨vs, rfl, h⟩ := h; exact ⟨vs, rfl, h.imp fun _ _ _ _ h => m.cv h⟩
theorem tops_sub {fp : List Nat} {x : AObj} : ∀ b ∈ tops fp x, b ∈ fp := by
  cases x with
  | arr t e xs => intro b hb; exact List.mem_of_mem_take hb
  | box t cs => exact fun b hb => hb
  | bld s => exact fun b hb => hb
  | gone => intro b hb; simp [tops] at hb
/-- An object keeps standing for its block, where its own blocks and what it names stay. -/
theorem Moves.objRel {X : Ctx} (m : Moves w w' ok ok' g g' lk lk') {o : Nat} {x : AObj} (h : ObjRel X w ok g lk o x) (hv : g'.val o = g.val o) (hf : g'.fp o = g.fp o)
    (hb : ∀ b ∈ g.fp o, w'.heap[b]? = w.heap[b]?) : ObjRel X w' ok' g' lk' o x := by
  cases x with
  | arr t e xs => simp only [ObjRel, hv, hf] at h ⊢; exact h.move hb
  | box t cs =>
    obtain ⟨b, cur, h1, h2, h3, h4⟩ := h
    exact ⟨b, cur, hv.trans h1, (hb b (by rw [h4]; simp)).trans h2, h3.imp fun _ _ _ _ h => m.cv h, hf.trans h4⟩
  | bld s =>
    obtain ⟨b, p, v, h1, h2, h3, h4, h5, h6⟩ := h
    refine ⟨b, p, v, hv.trans h1, h2, (hb b (by rw [h5]; simp)).trans h3, ?_, hf.trans h5, hf ▸ h6⟩
    refine ⟨h4.1, ?_⟩
    rcases h4.2 with h7 | ⟨gb, cap, cur, fz, rfl, hgb, hg, r⟩
    · exact .inl h7
    · exact .inr ⟨gb, cap, cur, fz, rfl, hgb, (hb gb (by rw [h5]; simp [Value.ownBlock])).trans hg, r⟩
  | gone => exact h.elim

/-- THE STEP THAT ADDS: nothing that was there has turned; some numbers that stood for nothing stand for new objects in new blocks. -/
structure Grows0 (mine : Nat → Prop) (w w' : World) (g g' : Gh) (lk lk' : Nat → Option AObj) : Prop where
  kept : Kept [] w w'
  mv : g'.mv = g.mv
  val : ∀ o x, lk o = some x → g'.val o = g.val o ∧ g'.fp o = g.fp o ∧ lk' o = some x
  dead : ∀ o, g.dead o ↔ g'.dead o
  dead' : ∀ o, g.dead o → lk' o = none
  new : ∀ o x, lk' o = some x → lk o = some x ∨ (lk o = none ∧ ∀ b ∈ g'.fp o, w.heap.size ≤ b ∧ b < w'.heap.size ∧ mine b)
  dis : ∀ o o' x x', o ≠ o' → lk o = none → lk o' = none → lk' o = some x → lk' o' = some x' → ∀ b ∈ g'.fp o, b ∉ g'.fp o'
  live : ∀ o, lk o ≠ some .gone
structure Grows (X : Ctx) (mine : Nat → Prop) (w w' : World) (g g' : Gh) (lk lk' : Nat → Option AObj) : Prop extends Grows0 mine w w' g g' lk lk' where
  obj : ∀ o x, lk o = none → lk' o = some x → ObjRel X w' (okB w' g' lk') g' lk' o x
theorem Grows0.okB {mine : Nat → Prop} (h : Grows0 mine w w' g g' lk lk') {b : Nat} (hb : Am.okB w g lk b) : Am.okB w' g' lk' b := by
  refine ⟨Nat.lt_of_lt_of_le hb.1 h.kept.size, fun o x hx hm => ?_⟩
  rcases h.new o x hx with h1 | ⟨h1, h2⟩
  · rw [(h.val o x h1).2.1] at hm
    exact hb.2 o x h1 hm
  · have := (h2 b (tops_sub b hm)).1
    have := hb.1
    omega
theorem Grows0.moves {mine : Nat → Prop} (h : Grows0 mine w w' g g' lk lk') : Moves w w' (Am.okB w g lk) (Am.okB w' g' lk') g g' lk lk' :=
  ⟨fun _ hb => h.okB hb, fun b hb => h.kept.block b hb.1 (by simp), fun o hd => (h.dead o).1 hd, fun o x hx => .inr ⟨(h.val o x hx).1, x, (h.val o x hx).2.2, Alike.refl x⟩, h.live⟩
theorem Grows.hrel {X : Ctx} {mine : Nat → Prop} (h : Grows X mine w w' g g' lk lk') (r : HRel X mine w g lk) : HRel X mine w' g' lk' := by
  refine ⟨fun o x hx => ?_, fun o x hx b hb => ?_, fun o o' x x' hne hx hx' b hb hb' => ?_, fun o hd => h.dead' o ((h.dead o).2 hd)⟩
  · rcases h.new o x hx with h1 | ⟨h1, _⟩
    · exact h.moves.objRel (r.obj o x h1) (h.val o x h1).1 (h.val o x h1).2.1 fun b hb => h.kept.block b (r.own o x h1 b hb).1 (by simp)
    · exact h.obj o x h1 hx
  · rcases h.new o x hx with h1 | ⟨_, h2⟩
    · rw [(h.val o x h1).2.1] at hb
      exact ⟨Nat.lt_of_lt_of_le (r.own o x h1 b hb).1 h.kept.size, (r.own o x h1 b hb).2⟩
    · exact (h2 b hb).2
  · rcases h.new o x hx with h1 | ⟨h1, h2⟩ <;> rcases h.new o' x' hx' with h3 | ⟨h3, h4⟩
    · rw [(h.val o x h1).2.1] at hb
      rw [(h.val o' x' h3).2.1] at hb'
      exact r.dis o o' x x' hne h1 h3 b hb hb'
    · rw [(h.val o x h1).2.1] at hb
      have := (r.own o x h1 b hb).1
      have := (h4 b hb').1
      omega
    · rw [(h.val o' x' h3).2.1] at hb'
      have := (r.own o' x' h3 b hb').1
      have := (h2 b hb).1
      omega
    · exact h.dis o o' x x' hne h1 h3 hx hx' b hb hb'
theorem Grows.live' {X : Ctx} {mine : Nat → Prop} (h : Grows X mine w w' g g' lk lk') (o : Nat) : lk' o ≠ some .gone := by
  intro hx
  rcases h.new o _ hx with h1 | ⟨h1, _⟩
  · exact h.live o h1
  · exact h.obj o _ h1 hx
theorem Grows0.refl (mine : Nat → Prop) (w : World) (g : Gh) (lk : Nat → Option AObj) (hd : ∀ o, g.dead o → lk o = none) (hl : ∀ o, lk o ≠ some .gone) : Grows0 mine w w g g lk lk :=
  ⟨Kept.refl _ _, rfl, fun _ _ h => ⟨rfl, rfl, h⟩, fun _ => Iff.rfl, hd, fun _ _ h => .inl h, fun _ _ _ _ _ h _ h' _ => (by rw [h] at h'; cases h'), hl⟩
theorem Grows.refl (X : Ctx) (mine : Nat → Prop) (w : World) (g : Gh) (lk : Nat → Option AObj) (hd : ∀ o, g.dead o → lk o = none) (hl : ∀ o, lk o ≠ some .gone) : Grows X mine w w g g lk lk :=
  { Grows0.refl mine w g lk hd hl with obj := fun o _ h h' => by rw [h] at h'; cases h' }
/-- a step of the world alone -/
theorem Grows.world {X : Ctx} {mine : Nat → Prop} (hk : Kept [] w w') (g : Gh) (lk : Nat → Option AObj) (hd : ∀ o, g.dead o → lk o = none) (hl : ∀ o, lk o ≠ some .gone) : Grows X mine w w' g g lk lk :=
  { Grows0.refl mine w g lk hd hl with kept := hk, new := fun _ _ h => .inl h, obj := fun o _ h h' => by rw [h] at h'; cases h' }

/-- new objects, from number n on -/
def lkAdd (lk : Nat → Option AObj) (n : Nat) (N : List AObj) (o : Nat) : Option AObj :=
  if n ≤ o then match N[o - n]? with
    | some x => some x
    | none => lk o
  else lk o
def Gh.add (g : Gh) (n : Nat) (L : List (Value × List Nat)) : Gh :=
  { g with
    val := fun o => if n ≤ o then match L[o - n]? with | some p => p.1 | none => g.val o else g.val o
    fp := fun o => if n ≤ o then match L[o - n]? with | some p => p.2 | none => g.fp o else g.fp o }
theorem lkAdd_nil (lk : Nat → Option AObj) (n : Nat) : lkAdd lk n [] = lk := by funext o; simp [lkAdd]
theorem Gh.add_nil (g : Gh) (n : Nat) : g.add n [] = g := by simp [Gh.add]
theorem lkAdd_old {lk : Nat → Option AObj} {n : Nat} {N : List AObj} {o : Nat} (h : ∀ i, i < N.length → lk (n + i) = none) {x : AObj} (hx : lk o = some x) : lkAdd lk n N o = some x := by
  unfold lkAdd
  split
  · rename_i hn
    split
    · rename_i y hy
      have := h (o - n) (List.getElem?_eq_some_iff.1 hy).1
      rw [show n + (o - n) = o from by omega, hx] at this
      cases this
    · exact hx
  · exact hx
theorem lkAdd_new {lk : Nat → Option AObj} {n : Nat} {N : List AObj} {o : Nat} {x : AObj} (hx : lkAdd lk n N o = some x) : lk o = some x ∨ (n ≤ o ∧ N[o - n]? = some x) := by
  unfold lkAdd at hx
  split at hx
  · rename_i hn
    split at hx
    · rename_i y hy
      exact .inr ⟨hn, hx ▸ hy⟩
    · exact .inl hx
  · exact .inl hx
theorem Gh.add_val_new {g : Gh} {n o : Nat} {L : List (Value × List Nat)} (hn : n ≤ o) {p : Value × List Nat} (h : L[o - n]? = some p) : (g.add n L).val o = p.1 ∧ (g.add n L).fp o = p.2 := by
  simp [Gh.add, hn, h]
theorem Gh.add_val_old {g : Gh} {n o : Nat} {L : List (Value × List Nat)} {lk : Nat → Option AObj} (h : ∀ i, i < L.length → lk (n + i) = none) {x : AObj} (hx : lk o = some x) : (g.add n L).val o = g.val o ∧ (g.add n L).fp o = g.fp o := by
  unfold Gh.add
  by_cases hn : n ≤ o
  · cases hy : L[o - n]? with
    | none => simp [hy]
    | some p =>
      have := h (o - n) (List.getElem?_eq_some_iff.1 hy).1
      rw [show n + (o - n) = o from by omega, hx] at this
      cases this
  · simp [hn]
/-- the blocks of several things, none twice -/
def Disj : List (List Nat) → Prop
  | [] => True
  | S :: r => S.Nodup ∧ (∀ b ∈ S, ∀ T ∈ r, b ∉ T) ∧ Disj r
theorem Disj.get : ∀ {l : List (List Nat)}, Disj l → ∀ (i j : Nat) (S T : List Nat), i ≠ j → l[i]? = some S → l[j]? = some T → ∀ b ∈ S, b ∉ T
  | [], _, i, _, _, _, _, hi, _ => by simp at hi
  | A :: r, h, i, j, S, T, hne, hi, hj => by
    intro b hb hb'
    cases i with
    | zero =>
      cases j with
      | zero => exact hne rfl
      | succ j =>
        simp at hi hj; subst hi
        exact h.2.1 b hb T (List.mem_of_getElem? hj) hb'
    | succ i =>
      cases j with
      | zero =>
        simp at hi hj; subst hj
        exact h.2.1 b hb' S (List.mem_of_getElem? hi) hb
      | succ j =>
        simp at hi hj
        exact h.2.2.get i j S T (by omega) hi hj b hb hb'
theorem Grows0.add {mine : Nat → Prop} {n : Nat} {N : List AObj} {L : List (Value × List Nat)} (hk : Kept [] w w') (hlen : L.length = N.length) (hfree : ∀ i, i < N.length → lk (n + i) = none ∧ ¬ g.dead (n + i))
    (hd : ∀ o, g.dead o → lk o = none) (hl : ∀ o, lk o ≠ some .gone) (hfp : ∀ p ∈ L, ∀ b ∈ p.2, w.heap.size ≤ b ∧ b < w'.heap.size ∧ mine b) (hdis : Disj (L.map (·.2))) :
    Grows0 mine w w' g (g.add n L) lk (lkAdd lk n N) := by
  refine ⟨hk, rfl, fun o x hx => ⟨(Gh.add_val_old (fun i hi => (hfree i (hlen ▸ hi)).1) hx).1, (Gh.add_val_old (fun i hi => (hfree i (hlen ▸ hi)).1) hx).2, lkAdd_old (fun i hi => (hfree i hi).1) hx⟩, fun o => Iff.rfl, fun o ho => ?_, fun o x hx => ?_, fun o o' x x' hne h1 h2 h3 h4 b hb hb' => ?_, hl⟩
  · cases hx : lkAdd lk n N o with
    | none => rfl
    | some x =>
      rcases lkAdd_new hx with h1 | ⟨h1, h2⟩
      · rw [hd o ho] at h1; cases h1
      · have := (hfree (o - n) (List.getElem?_eq_some_iff.1 h2).1).2
        rw [show n + (o - n) = o from by omega] at this
        exact absurd ho this
  · rcases lkAdd_new hx with h1 | ⟨h1, h2⟩
    · exact .inl h1
    · have hlt := (List.getElem?_eq_some_iff.1 h2).1
      have hfr := (hfree (o - n) hlt).1
      rw [show n + (o - n) = o from by omega] at hfr
      refine .inr ⟨hfr, fun b hb => ?_⟩
      obtain ⟨p, hp⟩ : ∃ p, L[o - n]? = some p := ⟨L[o - n]'(by omega), List.getElem?_eq_getElem _⟩
      rw [(Gh.add_val_new h1 hp).2] at hb
      exact hfp p (List.mem_of_getElem? hp) b hb
  · rcases lkAdd_new h3 with h5 | ⟨h5, h6⟩
    · rw [h1] at h5; cases h5
    rcases lkAdd_new h4 with h7 | ⟨h7, h8⟩
    · rw [h2] at h7; cases h7
    have l1 := (List.getElem?_eq_some_iff.1 h6).1
    have l2 := (List.getElem?_eq_some_iff.1 h8).1
    obtain ⟨p, hp⟩ : ∃ p, L[o - n]? = some p := ⟨L[o - n]'(by omega), List.getElem?_eq_getElem _⟩
    obtain ⟨q, hq⟩ : ∃ q, L[o' - n]? = some q := ⟨L[o' - n]'(by omega), List.getElem?_eq_getElem _⟩
    rw [(Gh.add_val_new h5 hp).2] at hb
    rw [(Gh.add_val_new h7 hq).2] at hb'
    exact hdis.get (o - n) (o' - n) p.2 q.2 (by omega) (by simp [hp]) (by simp [hq]) b hb hb'
theorem Grows.add {X : Ctx} {mine : Nat → Prop} {n : Nat} {N : List AObj} {L : List (Value × List Nat)} (hk : Kept [] w w') (hlen : L.length = N.length) (hfree : ∀ i, i < N.length → lk (n + i) = none ∧ ¬ g.dead (n + i))
    (hd : ∀ o, g.dead o → lk o = none) (hl : ∀ o, lk o ≠ some .gone) (hfp : ∀ p ∈ L, ∀ b ∈ p.2, w.heap.size ≤ b ∧ b < w'.heap.size ∧ mine b) (hdis : Disj (L.map (·.2)))
    (hobj : ∀ i x p, N[i]? = some x → L[i]? = some p → (g.add n L).val (n + i) = p.1 → (g.add n L).fp (n + i) = p.2 → Moves w w' (okB w g lk) (okB w' (g.add n L) (lkAdd lk n N)) g (g.add n L) lk (lkAdd lk n N) → ObjRel X w' (okB w' (g.add n L) (lkAdd lk n N)) (g.add n L) (lkAdd lk n N) (n + i) x) :
    Grows X mine w w' g (g.add n L) lk (lkAdd lk n N) := by
  have h0 := Grows0.add (n := n) (N := N) (L := L) hk hlen hfree hd hl hfp hdis
  refine { h0 with obj := fun o x h1 h2 => ?_ }
  rcases lkAdd_new h2 with h3 | ⟨h3, h4⟩
  · rw [h1] at h3; cases h3
  · have l1 := (List.getElem?_eq_some_iff.1 h4).1
    obtain ⟨p, hp⟩ : ∃ p, L[o - n]? = some p := ⟨L[o - n]'(by omega), List.getElem?_eq_getElem _⟩
    have e : n + (o - n) = o := by omega
    have := hobj (o - n) x p h4 hp (by rw [e]; exact (Gh.add_val_new h3 hp).1) (by rw [e]; exact (Gh.add_val_new h3 hp).2) h0.moves
    rwa [e] at this
end Go.Proofs.YtglbaihiibdemaaGreatDoor.Am
