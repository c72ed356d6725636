/- What is proved here: how typed data lies in the model's memory (read only; or owned, block by block), and that worlds that keep the blocks keep it. -/
import Derived.Orders
import Derived.Tactics
import Derived.Laws.AppendOwn
import Derived.Laws.Rows
import Derived.Laws.MakeOwn
import Derived.Laws.BytesString
import Derived.Below
import Derived.KernelRfl
namespace Go.Proofs.YtglbaihiibdemaaGreatDoor.Am
open Go
set_option autoImplicit false

/-- The types of data. -/
inductive Ty where
  | int (k : IntKind)
  | bool
  | str
  | sl (tid : Nat) (e : Ty)
  | pair (a b : Ty)

def IntKind.same : IntKind → IntKind → Bool
  | .i8, .i8 | .i16, .i16 | .i32, .i32 | .i64, .i64 | .u8, .u8 | .u16, .u16 | .u32, .u32 | .u64, .u64 => true
  | _, _ => false
theorem IntKind.same_eq : ∀ {a b : IntKind}, IntKind.same a b = true → a = b := by
  intro a b h; cases a <;> cases b <;> first | rfl | (simp [IntKind.same] at h)

def Ty.beq : Ty → Ty → Bool
  | .int k, .int k' => IntKind.same k k'
  | .bool, .bool => true
  | .str, .str => true
  | .sl t e, .sl t' e' => t.beq t' && Ty.beq e e'
  | .pair a b, .pair c d => Ty.beq a c && Ty.beq b d
  | _, _ => false
theorem Ty.beq_eq : ∀ {a b : Ty}, Ty.beq a b = true → a = b
  | .int k, b, h => by cases b <;> simp [Ty.beq] at h; exact congrArg Ty.int (IntKind.same_eq h)
  | .bool, b, h => by cases b <;> simp [Ty.beq] at h; rfl
  | .str, b, h => by cases b <;> simp [Ty.beq] at h; rfl
  | .sl t e, b, h => by
    cases b <;> simp [Ty.beq] at h
    obtain ⟨h1, h2⟩ := h
    have h3 := Ty.beq_eq h2
    subst h1 h3
    rfl
  | .pair x y, b, h => by
    cases b <;> simp [Ty.beq] at h
    rw [Ty.beq_eq h.1, Ty.beq_eq h.2]

@[reducible] def Ty.den : Ty → Type
  | .int _ => Int
  | .bool => Bool
  | .str => List UInt8
  | .sl _ e => List e.den
  | .pair a b => a.den × b.den
def Ty.dflt : (t : Ty) → t.den
  | .int _ => (0 : Int)
  | .bool => false
  | .str => ([] : List UInt8)
  | .sl _ _ => []
  | .pair a b => (a.dflt, b.dflt)
/-- cells -/
def Ty.n : Ty → Nat
  | .pair a b => a.n + b.n
  | _ => 1
theorem Ty.n_pos : ∀ t : Ty, 0 < t.n
  | .int _ => by simp [Ty.n]
  | .bool => by simp [Ty.n]
  | .str => by simp [Ty.n]
  | .sl _ _ => by simp [Ty.n]
  | .pair a b => by have := a.n_pos; simp only [Ty.n]; omega

def castL (a b : Ty) (x : List a.den) : Option (List b.den) :=
  if h : a.beq b = true then some (Ty.beq_eq h ▸ x) else none

/-- A row of elements that is read. -/
def RowR {α : Type} (R : α → List Value → Prop) (w : World) (ok : Nat → Prop) (n : Nat) (a : Option Addr) (xs : List α) : Prop :=
  ∀ (i : Nat) (x : α), xs[i]? = some x → ∃ ad c, a = some ad ∧ ad.spot = none ∧ ok ad.block ∧ R x c ∧ ∀ (j : Nat) (u : Value), c[j]? = some u → w.cell? ⟨ad.block, ad.off + (i * n + j), none⟩ = some u

/-- Data that is read: its cells. -/
def Rep (w : World) (ok : Nat → Prop) : (t : Ty) → t.den → List Value → Prop
  | .int k, x, cs => cs = [.int k x]
  | .bool, x, cs => cs = [.bool x]
  | .str, x, cs => cs = [.string ⟨⟨x⟩⟩]
  | .sl _ e, xs, cs => ∃ a cap, cs = [.slice a xs.length cap] ∧ xs.length ≤ cap ∧ RowR (Rep w ok e) w ok e.n a xs
  | .pair a b, x, cs => ∃ c d, cs = c ++ d ∧ Rep w ok a x.1 c ∧ Rep w ok b x.2 d

theorem Rep.len {w : World} {ok : Nat → Prop} : ∀ {t : Ty} {x : t.den} {cs : List Value}, Rep w ok t x cs → cs.length = t.n
  | .int _, _, _, h => by simp only [Rep] at h; subst h; rfl
  | .bool, _, _, h => by simp only [Rep] at h; subst h; rfl
  | .str, _, _, h => by simp only [Rep] at h; subst h; rfl
  | .sl _ _, _, _, h => by obtain ⟨_, _, rfl, _⟩ := h; rfl
  | .pair _ _, _, _, h => by obtain ⟨c, d, rfl, hc, hd⟩ := h; simp only [List.length_append, Ty.n, hc.len, hd.len]
theorem Rep.one {w : World} {ok : Nat → Prop} : ∀ {t : Ty} {x : t.den} {cs : List Value}, Rep w ok t x cs → ∀ u ∈ cs, u.oneCell' = true
  | .int _, _, _, h => by simp only [Rep] at h; subst h; simp [Value.oneCell']
  | .bool, _, _, h => by simp only [Rep] at h; subst h; simp [Value.oneCell']
  | .str, _, _, h => by simp only [Rep] at h; subst h; simp [Value.oneCell']
  | .sl _ _, _, _, h => by obtain ⟨_, _, rfl, _⟩ := h; simp [Value.oneCell']
  | .pair _ _, _, _, h => by
    obtain ⟨c, d, rfl, hc, hd⟩ := h
    intro u hu
    rcases List.mem_append.1 hu with h1 | h1
    · exact hc.one u h1
    · exact hd.one u h1

theorem RowR.imp {α : Type} {R R' : α → List Value → Prop} {w w' : World} {ok ok' : Nat → Prop} {n : Nat} {a : Option Addr} {xs : List α}
    (h : RowR R w ok n a xs) (hR : ∀ x c, R x c → R' x c) (hok : ∀ b, ok b → ok' b) (hw : ∀ b, ok b → w'.heap[b]? = w.heap[b]?) : RowR R' w' ok' n a xs := by
  intro i x hx
  obtain ⟨ad, c, ha, hs, ho, hr, hc⟩ := h i x hx
  exact ⟨ad, c, ha, hs, hok _ ho, hR _ _ hr, fun j u hu => (World.cell?_of_block (w := w) (a := ⟨ad.block, ad.off + (i * n + j), none⟩) (hw _ ho)).trans (hc j u hu)⟩
/-- Data stays where its blocks stay. -/
theorem Rep.move {w w' : World} {ok ok' : Nat → Prop} (hok : ∀ b, ok b → ok' b) (hw : ∀ b, ok b → w'.heap[b]? = w.heap[b]?) :
    ∀ {t : Ty} {x : t.den} {cs : List Value}, Rep w ok t x cs → Rep w' ok' t x cs
  | .int _, _, _, h => h
  | .bool, _, _, h => h
  | .str, _, _, h => h
  | .sl _ _, _, _, h => by
    obtain ⟨a, cap, e, hl, hr⟩ := h
    exact ⟨a, cap, e, hl, hr.imp (fun _ _ hx => Rep.move hok hw hx) hok hw⟩
  | .pair _ _, _, _, h => by
    obtain ⟨c, d, e, hc, hd⟩ := h
    exact ⟨c, d, e, Rep.move hok hw hc, Rep.move hok hw hd⟩

/-- Elements one behind the other, each with its own blocks. -/
def Rows {α : Type} (R : α → List Value → List Nat → Prop) : List α → List Value → List Nat → Prop
  | [], cs, S => cs = [] ∧ S = []
  | x :: xs, cs, S => ∃ c cs' S1 S2, cs = c ++ cs' ∧ S = S1 ++ S2 ∧ R x c S1 ∧ Rows R xs cs' S2

/-- Data that is owned: its cells, and the blocks that it lies in. -/
def Own (w : World) : (t : Ty) → t.den → List Value → List Nat → Prop
  | .int k, x, cs, S => cs = [.int k x] ∧ S = []
  | .bool, x, cs, S => cs = [.bool x] ∧ S = []
  | .str, x, cs, S => cs = [.string ⟨⟨x⟩⟩] ∧ S = []
  | .sl tid e, xs, cs, S =>
    (∃ a, cs = [.slice a 0 0] ∧ xs = [] ∧ S = []) ∨
    (∃ g cap cur css S', cs = [.slice (some ⟨g, 0, none⟩) xs.length cap] ∧ w.heap[g]? = some (.cells cur tid (0, 0)) ∧ xs.length ≤ cap ∧ cap ≤ maxLen ∧
      cur.size = cap * e.n ∧ cur.toList.take (xs.length * e.n) = css ∧ Rows (Own w e) xs css S' ∧ S = g :: S' ∧ S.Nodup)
  | .pair a b, x, cs, S => ∃ c d S1 S2, cs = c ++ d ∧ S = S1 ++ S2 ∧ S.Nodup ∧ Own w a x.1 c S1 ∧ Own w b x.2 d S2

theorem Rows.len {α : Type} {R : α → List Value → List Nat → Prop} {n : Nat} (hR : ∀ x c S, R x c S → c.length = n) : ∀ {xs : List α} {cs : List Value} {S : List Nat}, Rows R xs cs S → cs.length = xs.length * n
  | [], _, _, h => by obtain ⟨rfl, _⟩ := h; simp
  | x :: xs, _, _, h => by
    obtain ⟨c, cs', S1, S2, rfl, _, hx, hr⟩ := h
    rw [List.length_append, hR _ _ _ hx, hr.len hR, List.length_cons, Nat.succ_mul]; omega
theorem Own.len {w : World} : ∀ {t : Ty} {x : t.den} {cs : List Value} {S : List Nat}, Own w t x cs S → cs.length = t.n
  | .int _, _, _, _, h => by obtain ⟨rfl, _⟩ := h; rfl
  | .bool, _, _, _, h => by obtain ⟨rfl, _⟩ := h; rfl
  | .str, _, _, _, h => by obtain ⟨rfl, _⟩ := h; rfl
  | .sl _ _, _, _, _, h => by
    rcases h with ⟨_, rfl, _⟩ | ⟨_, _, _, _, _, rfl, _⟩ <;> rfl
  | .pair _ _, _, _, _, h => by obtain ⟨c, d, S1, S2, rfl, _, _, hc, hd⟩ := h; simp only [List.length_append, Ty.n, hc.len, hd.len]
theorem Own.one {w : World} : ∀ {t : Ty} {x : t.den} {cs : List Value} {S : List Nat}, Own w t x cs S → ∀ u ∈ cs, u.oneCell' = true
  | .int _, _, _, _, h => by obtain ⟨rfl, _⟩ := h; simp [Value.oneCell']
  | .bool, _, _, _, h => by obtain ⟨rfl, _⟩ := h; simp [Value.oneCell']
  | .str, _, _, _, h => by obtain ⟨rfl, _⟩ := h; simp [Value.oneCell']
  | .sl _ _, _, _, _, h => by
    rcases h with ⟨_, rfl, _⟩ | ⟨_, _, _, _, _, rfl, _⟩ <;> simp [Value.oneCell']
  | .pair _ _, _, _, _, h => by
    obtain ⟨c, d, S1, S2, rfl, _, _, hc, hd⟩ := h
    intro u hu
    rcases List.mem_append.1 hu with h1 | h1
    · exact hc.one u h1
    · exact hd.one u h1
theorem Rows.one {α : Type} {R : α → List Value → List Nat → Prop} (hR : ∀ x c S, R x c S → ∀ u ∈ c, u.oneCell' = true) : ∀ {xs : List α} {cs : List Value} {S : List Nat}, Rows R xs cs S → ∀ u ∈ cs, u.oneCell' = true
  | [], _, _, h => by obtain ⟨rfl, _⟩ := h; simp
  | x :: xs, _, _, h => by
    obtain ⟨c, cs', S1, S2, rfl, _, hx, hr⟩ := h
    intro u hu
    rcases List.mem_append.1 hu with h1 | h1
    · exact hR _ _ _ hx u h1
    · exact hr.one hR u h1
theorem Rows.imp {α : Type} {R R' : α → List Value → List Nat → Prop} : ∀ {xs : List α} {cs : List Value} {S : List Nat}, Rows R xs cs S → (∀ x c S', (∀ b ∈ S', b ∈ S) → R x c S' → R' x c S') → Rows R' xs cs S
  | [], _, _, h, _ => h
  | x :: xs, _, _, h, hR => by
    obtain ⟨c, cs', S1, S2, rfl, rfl, hx, hr⟩ := h
    exact ⟨c, cs', S1, S2, rfl, rfl, hR _ _ _ (fun b hb => List.mem_append_left _ hb) hx, hr.imp fun x c S' hs hx => hR x c S' (fun b hb => List.mem_append_right _ (hs b hb)) hx⟩
/-- What is owned stays where its blocks stay. -/
theorem Own.move {w w' : World} : ∀ {t : Ty} {x : t.den} {cs : List Value} {S : List Nat}, Own w t x cs S → (∀ b ∈ S, w'.heap[b]? = w.heap[b]?) → Own w' t x cs S
  | .int _, _, _, _, h, _ => h
  | .bool, _, _, _, h, _ => h
  | .str, _, _, _, h, _ => h
  | .sl _ _, _, _, _, h, hw => by
    rcases h with h | ⟨g, cap, cur, css, S', e1, hg, h1, h2, h3, h4, hr, rfl, hn⟩
    · exact .inl h
    · exact .inr ⟨g, cap, cur, css, S', e1, (hw g (List.mem_cons_self)).trans hg, h1, h2, h3, h4, hr.imp (fun x c T hs hx => Own.move hx fun b hb => hw b (List.mem_cons_of_mem _ (hs b hb))), rfl, hn⟩
  | .pair _ _, _, _, _, h, hw => by
    obtain ⟨c, d, S1, S2, rfl, rfl, hn, hc, hd⟩ := h
    exact ⟨c, d, S1, S2, rfl, rfl, hn, hc.move fun b hb => hw b (List.mem_append_left _ hb), hd.move fun b hb => hw b (List.mem_append_right _ hb)⟩
theorem Rows.nodup {α : Type} {R : α → List Value → List Nat → Prop} : ∀ {xs : List α} {cs : List Value} {S : List Nat}, Rows R xs cs S → S.Nodup → ∀ (i : Nat) (x : α), xs[i]? = some x → ∃ c S', R x c S' ∧ S'.Nodup ∧ ∀ b ∈ S', b ∈ S
  | [], _, _, _, _, i, x, hx => by simp at hx
  | y :: xs, _, _, h, hn, i, x, hx => by
    obtain ⟨c, cs', S1, S2, rfl, rfl, hy, hr⟩ := h
    cases i with
    | zero => simp at hx; subst hx; exact ⟨c, S1, hy, (List.nodup_append.1 hn).1, fun b hb => List.mem_append_left _ hb⟩
    | succ i =>
      obtain ⟨c', S', h1, h2, h3⟩ := hr.nodup (List.nodup_append.1 hn).2.1 i x (by simpa using hx)
      exact ⟨c', S', h1, h2, fun b hb => List.mem_append_right _ (h3 b hb)⟩
theorem Own.lt {w : World} : ∀ {t : Ty} {x : t.den} {cs : List Value} {S : List Nat}, Own w t x cs S → ∀ b ∈ S, b < w.heap.size
  | .int _, _, _, _, h => by obtain ⟨_, rfl⟩ := h; simp
  | .bool, _, _, _, h => by obtain ⟨_, rfl⟩ := h; simp
  | .str, _, _, _, h => by obtain ⟨_, rfl⟩ := h; simp
  | .sl _ e, _, _, _, h => by
    rcases h with ⟨_, _, _, rfl⟩ | ⟨g, cap, cur, css, S', e1, hg, h1, h2, h3, h4, hr, rfl, hn⟩
    · simp
    · intro b hb
      rcases List.mem_cons.1 hb with rfl | hb
      · exact (Array.getElem?_eq_some_iff.1 hg).1
      · have key : ∀ (xs : List e.den) (cs : List Value) (S : List Nat), Rows (Own w e) xs cs S → ∀ b ∈ S, b < w.heap.size := by
          intro xs
          induction xs with
          | nil => intro cs S h; obtain ⟨_, rfl⟩ := h; simp
          | cons x xs ih =>
            intro cs S h b hb
            obtain ⟨c, cs', S1, S2, rfl, rfl, hx, hr⟩ := h
            rcases List.mem_append.1 hb with hb | hb
            · exact Own.lt hx b hb
            · exact ih _ _ hr b hb
        exact key _ _ _ hr b hb
  | .pair _ _, _, _, _, h => by
    obtain ⟨c, d, S1, S2, rfl, rfl, hn, hc, hd⟩ := h
    intro b hb
    rcases List.mem_append.1 hb with hb | hb
    · exact hc.lt b hb
    · exact hd.lt b hb
theorem Own.nodup {w : World} : ∀ {t : Ty} {x : t.den} {cs : List Value} {S : List Nat}, Own w t x cs S → S.Nodup
  | .int _, _, _, _, h => by obtain ⟨_, rfl⟩ := h; simp
  | .bool, _, _, _, h => by obtain ⟨_, rfl⟩ := h; simp
  | .str, _, _, _, h => by obtain ⟨_, rfl⟩ := h; simp
  | .sl _ _, _, _, _, h => by
    rcases h with ⟨_, _, _, rfl⟩ | ⟨g, cap, cur, css, S', e1, hg, h1, h2, h3, h4, hr, rfl, hn⟩
    · simp
    · exact hn
  | .pair _ _, _, _, _, h => by obtain ⟨c, d, S1, S2, _, rfl, hn, _⟩ := h; exact hn

theorem Rows.get {α : Type} {R : α → List Value → List Nat → Prop} {n : Nat} (hR : ∀ x c S, R x c S → c.length = n) : ∀ {xs : List α} {cs : List Value} {S : List Nat}, Rows R xs cs S →
    ∀ (i : Nat) (x : α), xs[i]? = some x → ∃ c S', R x c S' ∧ (∀ b ∈ S', b ∈ S) ∧ ∀ (j : Nat) (u : Value), c[j]? = some u → cs[i * n + j]? = some u
  | [], _, _, _, i, x, hx => by simp at hx
  | y :: xs, _, _, h, i, x, hx => by
    obtain ⟨c, cs', S1, S2, rfl, rfl, hy, hr⟩ := h
    have hl := hR _ _ _ hy
    cases i with
    | zero =>
      simp at hx; subst hx
      exact ⟨c, S1, hy, fun b hb => List.mem_append_left _ hb, fun j u hu => by
        rw [Nat.zero_mul, Nat.zero_add, List.getElem?_append_left (List.getElem?_eq_some_iff.1 hu).1]; exact hu⟩
    | succ i =>
      obtain ⟨c', S', h1, h2, h3⟩ := hr.get hR i x (by simpa using hx)
      exact ⟨c', S', h1, fun b hb => List.mem_append_right _ (h2 b hb), fun j u hu => by
        rw [List.getElem?_append_right (by rw [hl, Nat.succ_mul]; omega), hl, Nat.succ_mul]
        rw [show i * n + n + j - n = i * n + j from by omega]
        exact h3 j u hu⟩
theorem cell_row {w : World} {g : Nat} {cur : Array Value} {tid : Nat} {fr : Nat × Nat} (hg : w.heap[g]? = some (.cells cur tid fr)) (j : Nat) : w.cell? ⟨g, j, none⟩ = cur.toList[j]? := by
  rw [cell_of_row w g j cur tid fr hg]; simp
/-- What is owned can be read. -/
theorem Own.rep {w : World} {ok : Nat → Prop} : ∀ {t : Ty} {x : t.den} {cs : List Value} {S : List Nat}, Own w t x cs S → (∀ b ∈ S, ok b) → Rep w ok t x cs
  | .int _, _, _, _, h, _ => h.1
  | .bool, _, _, _, h, _ => h.1
  | .str, _, _, _, h, _ => h.1
  | .sl _ e, xs, _, _, h, ho => by
    rcases h with ⟨a, rfl, rfl, rfl⟩ | ⟨g, cap, cur, css, S', rfl, hg, h1, h2, h3, h4, hr, rfl, hn⟩
    · exact ⟨a, 0, rfl, Nat.le_refl _, fun i x hx => by simp at hx⟩
    · refine ⟨_, cap, rfl, h1, fun i x hx => ?_⟩
      obtain ⟨c, T, hc, hs, hget⟩ := hr.get (fun x c S h => Own.len h) i x hx
      refine ⟨⟨g, 0, none⟩, c, rfl, rfl, ho g List.mem_cons_self, Own.rep hc (fun b hb => ho b (List.mem_cons_of_mem _ (hs b hb))), fun j u hu => ?_⟩
      have := hget j u hu
      rw [← h4, List.getElem?_take] at this
      split at this
      · rw [cell_row hg]; simpa using this
      · cases this
  | .pair _ _, _, _, _, h, ho => by
    obtain ⟨c, d, S1, S2, rfl, rfl, hn, hc, hd⟩ := h
    exact ⟨c, d, rfl, hc.rep fun b hb => ho b (List.mem_append_left _ hb), hd.rep fun b hb => ho b (List.mem_append_right _ hb)⟩

/-- The world w' is as w was, but for what lies in the blocks of M, and new blocks. -/
structure Kept (M : List Nat) (w w' : World) : Prop where
  os : w'.os = w.os
  tape : w'.tape = w.tape
  output : w'.output = w.output
  size : w.heap.size ≤ w'.heap.size
  block : ∀ k, k < w.heap.size → k ∉ M → w'.heap[k]? = w.heap[k]?
theorem Kept.refl (M : List Nat) (w : World) : Kept M w w := ⟨rfl, rfl, rfl, Nat.le_refl _, fun _ _ _ => rfl⟩
theorem Kept.trans {M M' M'' : List Nat} {a b c : World} (h : Kept M a b) (k : Kept M' b c) (h1 : ∀ x ∈ M, x ∈ M'') (h2 : ∀ x ∈ M', x < a.heap.size → x ∈ M'') : Kept M'' a c :=
  ⟨k.os.trans h.os, k.tape.trans h.tape, k.output.trans h.output, Nat.le_trans h.size k.size, fun i hi hm =>
    (k.block i (Nat.lt_of_lt_of_le hi h.size) (fun hx => hm (h2 i hx hi))).trans (h.block i hi (fun hx => hm (h1 i hx)))⟩
theorem Kept.below {w w' : World} (h : Kept [] w w') : Go.RowKit.Below w.heap.size w w' := ⟨h.os, h.tape, h.output, h.size, fun k hk => h.block k hk (by simp)⟩
theorem Kept.of_below {w w' : World} (h : Go.RowKit.Below w.heap.size w w') (M : List Nat) : Kept M w w' := ⟨h.os, h.tape, h.output, h.size, fun k hk _ => h.block k hk⟩
theorem Kept.alloc (M : List Nat) (w : World) (o : Obj) : Kept M w (w.alloc o) := ⟨rfl, rfl, rfl, by simp, fun k hk _ => heap_alloc_old w o k hk⟩
theorem Kept.drew (M : List Nat) (w : World) : Kept M w w.drew := ⟨rfl, rfl, rfl, Nat.le_refl _, fun _ _ _ => rfl⟩
theorem Kept.mono {M M' : List Nat} {w w' : World} (h : Kept M w w') (hm : ∀ x ∈ M, x ∈ M') : Kept M' w w' := ⟨h.os, h.tape, h.output, h.size, fun k hk hk' => h.block k hk (fun hx => hk' (hm k hx))⟩
end Go.Proofs.YtglbaihiibdemaaGreatDoor.Am
