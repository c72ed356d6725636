/- What is proved here: what functions of the program compute, as plain Lean terms; each by evaluation; and their contracts. -/
import Derived.Test.YtglbaihiibdemaaGreatDoorFn1
namespace Go.Proofs.YtglbaihiibdemaaGreatDoor.Fn
open Go Go.Proofs Go.Proofs.YtglbaihiibdemaaGreatDoor.Am
set_option autoImplicit false
set_option maxRecDepth 100000
@[reducible] def ps_spec_BagSize : List Par := [⟨.val, true, (.sl 92 T_impl_Item)⟩]
@[reducible] def rs_spec_BagSize : List (Bool × Ty) := [(false, (.int .i64))]
noncomputable def X_spec_BagSize : Ctx := ⟨Tryz.prog, GT, lkS [(33, .sig ⟨ps_spec_BagOk, rs_spec_BagOk, C_spec_BagOk⟩)], 140, 5⟩
noncomputable def C_spec_BagSize : TakD ps_spec_BagSize → ValD ps_spec_BagSize → Option (MutD ps_spec_BagSize × ResD rs_spec_BagSize) := evF X_spec_BagSize TT 3 15 ps_spec_BagSize rs_spec_BagSize
noncomputable def L_spec_BagSize_5 (n : Int) (i : Int) (o2 : List (T_impl_Item.den)) : Option (MutD ps_spec_BagSize × ResD rs_spec_BagSize) := rsF X_spec_BagSize TT 3 15 ps_spec_BagSize rs_spec_BagSize 5 ⟨[(1, (.c (.ptr 0 0 0))), (3, (.c (.int .i64 n))), (4, (.c (.int .i64 i)))], [], [], [(.box 52 [(.bor T_impl_Item o2)])]⟩
theorem e_spec_BagSize (b : List (T_impl_Item.den)) : C_spec_BagSize () (b, ()) =
  Option.bind (C_spec_BagOk () (b, ())) fun c1 =>
  bif !c1.snd.fst then
  some ((), 0, ())
  else
  L_spec_BagSize_5 0 0 b := by
  kernel_rfl
theorem l_spec_BagSize_5 (n : Int) (i : Int) (o2 : List (T_impl_Item.den)) : L_spec_BagSize_5 n i o2 =
  bif ltC i (↑o2.length : Int) then
  bif leC 0 i && ltC i (↑o2.length : Int) then
  bif ltC 1000000 (IntKind.i64.wrap (n + (o2.getD i.toNat T_impl_Item.dflt).snd)) then
  L_spec_BagSize_5 1000000 (IntKind.i64.wrap (i + 1)) o2
  else
  L_spec_BagSize_5 (IntKind.i64.wrap (n + (o2.getD i.toNat T_impl_Item.dflt).snd)) (IntKind.i64.wrap (i + 1)) o2
  else
  none
  else
  some ((), n, ()) :=
  (rsF_eq X_spec_BagSize TT 3 15 ps_spec_BagSize rs_spec_BagSize 5 _).trans (by kernel_rfl)
theorem s_spec_BagSize : RowOk Tryz.prog GT 140 5 15 (.sig ⟨ps_spec_BagSize, rs_spec_BagSize, C_spec_BagSize⟩) := ⟨evF_sound (X := X_spec_BagSize) (tabOk bld0 ⟨s_spec_BagOk, trivial⟩) TT 3 15 ps_spec_BagSize rs_spec_BagSize rfl, enters_fn (by kernel_rfl)⟩
@[reducible] def ps_spec_l30Num : List Par := [⟨.val, false, (.int .i64)⟩]
@[reducible] def rs_spec_l30Num : List (Bool × Ty) := [(false, .str)]
noncomputable def X_spec_l30Num : Ctx := ⟨Tryz.prog, GT, lkS [(14, .sig ⟨ps_spec_Decimal, rs_spec_Decimal, C_spec_Decimal⟩)], 140, 5⟩
noncomputable def C_spec_l30Num : TakD ps_spec_l30Num → ValD ps_spec_l30Num → Option (MutD ps_spec_l30Num × ResD rs_spec_l30Num) := evF X_spec_l30Num TT 3 34 ps_spec_l30Num rs_spec_l30Num
theorem e_spec_l30Num (n : Int) : C_spec_l30Num () (n, ()) =
  bif ltC n 0 then
  some ((), [48], ())
  else
  Option.bind (C_spec_Decimal () (n, ())) fun c1 =>
  some ((), c1.snd.fst, ()) := by
  kernel_rfl
theorem s_spec_l30Num : RowOk Tryz.prog GT 140 5 34 (.sig ⟨ps_spec_l30Num, rs_spec_l30Num, C_spec_l30Num⟩) := ⟨evF_sound (X := X_spec_l30Num) (tabOk bld0 ⟨s_spec_Decimal, trivial⟩) TT 3 34 ps_spec_l30Num rs_spec_l30Num rfl, enters_fn (by kernel_rfl)⟩
@[reducible] def ps_spec_ShowBag : List Par := [⟨.val, true, (.sl 92 T_impl_Item)⟩]
@[reducible] def rs_spec_ShowBag : List (Bool × Ty) := [(false, .str)]
noncomputable def X_spec_ShowBag : Ctx := ⟨Tryz.prog, GT, lkS [(34, .sig ⟨ps_spec_l30Num, rs_spec_l30Num, C_spec_l30Num⟩)], 140, 5⟩
noncomputable def C_spec_ShowBag : TakD ps_spec_ShowBag → ValD ps_spec_ShowBag → Option (MutD ps_spec_ShowBag × ResD rs_spec_ShowBag) := evF X_spec_ShowBag TT 3 16 ps_spec_ShowBag rs_spec_ShowBag
noncomputable def L_spec_ShowBag_3 (s : List UInt8) (i : Int) (o2 : List (T_impl_Item.den)) : Option (MutD ps_spec_ShowBag × ResD rs_spec_ShowBag) := rsF X_spec_ShowBag TT 3 16 ps_spec_ShowBag rs_spec_ShowBag 3 ⟨[(1, (.c (.ptr 0 0 0))), (3, (.c (.str s))), (4, (.c (.int .i64 i)))], [], [], [(.box 52 [(.bor T_impl_Item o2)])]⟩
noncomputable def L_spec_ShowBag_6 (s : List UInt8) (i : Int) (k : Int) (o3 : List (T_impl_Item.den)) : Option (MutD ps_spec_ShowBag × ResD rs_spec_ShowBag) := rsF X_spec_ShowBag TT 3 16 ps_spec_ShowBag rs_spec_ShowBag 6 ⟨[(1, (.c (.ptr 0 0 0))), (3, (.c (.str s))), (4, (.c (.int .i64 i))), (5, (.c (.int .i64 k)))], [], [], [(.box 52 [(.bor T_impl_Item o3)])]⟩
theorem e_spec_ShowBag (b : List (T_impl_Item.den)) : C_spec_ShowBag () (b, ()) =
  L_spec_ShowBag_3 [] 0 b := by
  kernel_rfl
theorem l_spec_ShowBag_3 (s : List UInt8) (i : Int) (o2 : List (T_impl_Item.den)) : L_spec_ShowBag_3 s i o2 =
  bif ltC i (↑o2.length : Int) then
  L_spec_ShowBag_6 s i 0 o2
  else
  some ((), s, ()) :=
  (rsF_eq X_spec_ShowBag TT 3 16 ps_spec_ShowBag rs_spec_ShowBag 3 _).trans (by kernel_rfl)
theorem l_spec_ShowBag_6 (s : List UInt8) (i : Int) (k : Int) (o3 : List (T_impl_Item.den)) : L_spec_ShowBag_6 s i k o3 =
  bif leC 0 i && ltC i (↑o3.length : Int) then
  bif ltC k (↑(List.length (o3.getD i.toNat T_impl_Item.dflt).fst) : Int) then
  bif leC 0 i && ltC i (↑o3.length : Int) then
  bif leC 0 k && ltC k (↑(List.length (o3.getD i.toNat T_impl_Item.dflt).fst) : Int) then
  Option.bind (C_spec_l30Num () (List.getD (o3.getD i.toNat T_impl_Item.dflt).fst k.toNat 0, ())) fun c1 =>
  bif leC (↑(s.length + List.length c1.snd.fst) : Int) 9223372036854775807 then
  bif leC (↑((s ++ c1.snd.fst).length + [32].length) : Int) 9223372036854775807 then
  L_spec_ShowBag_6 (s ++ c1.snd.fst ++ [32]) i (IntKind.i64.wrap (k + 1)) o3
  else
  none
  else
  none
  else
  none
  else
  none
  else
  bif leC (↑(s.length + [42].length) : Int) 9223372036854775807 then
  bif leC 0 i && ltC i (↑o3.length : Int) then
  Option.bind (C_spec_l30Num () ((o3.getD i.toNat T_impl_Item.dflt).snd, ())) fun c2 =>
  bif leC (↑((s ++ [42]).length + List.length c2.snd.fst) : Int) 9223372036854775807 then
  bif leC (↑((s ++ [42] ++ c2.snd.fst).length + [10].length) : Int) 9223372036854775807 then
  L_spec_ShowBag_3 (s ++ [42] ++ c2.snd.fst ++ [10]) (IntKind.i64.wrap (i + 1)) o3
  else
  none
  else
  none
  else
  none
  else
  none
  else
  none :=
  (rsF_eq X_spec_ShowBag TT 3 16 ps_spec_ShowBag rs_spec_ShowBag 6 _).trans (by kernel_rfl)
theorem s_spec_ShowBag : RowOk Tryz.prog GT 140 5 16 (.sig ⟨ps_spec_ShowBag, rs_spec_ShowBag, C_spec_ShowBag⟩) := ⟨evF_sound (X := X_spec_ShowBag) (tabOk bld0 ⟨s_spec_l30Num, trivial⟩) TT 3 16 ps_spec_ShowBag rs_spec_ShowBag rfl, enters_fn (by kernel_rfl)⟩
@[reducible] def ps_spec_ReplyOf : List Par := [⟨.val, true, T_impl_Cluster⟩]
@[reducible] def rs_spec_ReplyOf : List (Bool × Ty) := [(false, .str)]
noncomputable def X_spec_ReplyOf : Ctx := ⟨Tryz.prog, GT, lkS [(14, .sig ⟨ps_spec_Decimal, rs_spec_Decimal, C_spec_Decimal⟩), (15, .sig ⟨ps_spec_BagSize, rs_spec_BagSize, C_spec_BagSize⟩), (16, .sig ⟨ps_spec_ShowBag, rs_spec_ShowBag, C_spec_ShowBag⟩)], 140, 5⟩
noncomputable def C_spec_ReplyOf : TakD ps_spec_ReplyOf → ValD ps_spec_ReplyOf → Option (MutD ps_spec_ReplyOf × ResD rs_spec_ReplyOf) := evF X_spec_ReplyOf TT 3 5 ps_spec_ReplyOf rs_spec_ReplyOf
theorem e_spec_ReplyOf (c : T_impl_Cluster.den) : C_spec_ReplyOf () (c, ()) =
  bif (↑(List.length c.snd.snd.snd.snd) : Int) == 0 then
  some ((), [111, 112, 101, 110, 10], ())
  else
  bif leC 0 (IntKind.i64.wrap ((↑(List.length c.snd.snd.snd.snd) : Int) - 1)) &&   ltC (IntKind.i64.wrap ((↑(List.length c.snd.snd.snd.snd) : Int) - 1)) (↑(List.length c.snd.snd.snd.snd) : Int) then
  Option.bind (C_spec_BagSize () (List.getD c.snd.snd.snd.snd (IntKind.i64.wrap ((↑(List.length c.snd.snd.snd.snd) : Int) - 1)).toNat [], ())) fun c1 =>
  Option.bind (C_spec_Decimal () (c1.snd.fst, ())) fun c2 =>
  bif leC (↑([114, 111, 119, 115, 32].length + List.length c2.snd.fst) : Int) 9223372036854775807 then
  bif leC (↑(([114, 111, 119, 115, 32] ++ c2.snd.fst).length + [10].length) : Int) 9223372036854775807 then
  Option.bind (C_spec_ShowBag () (List.getD c.snd.snd.snd.snd (IntKind.i64.wrap ((↑(List.length c.snd.snd.snd.snd) : Int) - 1)).toNat [], ())) fun c3 =>
  bif leC (↑(([114, 111, 119, 115, 32] ++ c2.snd.fst ++ [10]).length + List.length c3.snd.fst) : Int)   9223372036854775807 then
  some ((), [114, 111, 119, 115, 32] ++ c2.snd.fst ++ [10] ++ c3.snd.fst, ())
  else
  none
  else
  none
  else
  none
  else
  none := by
  kernel_rfl
theorem s_spec_ReplyOf : RowOk Tryz.prog GT 140 5 5 (.sig ⟨ps_spec_ReplyOf, rs_spec_ReplyOf, C_spec_ReplyOf⟩) := ⟨evF_sound (X := X_spec_ReplyOf) (tabOk bld0 ⟨s_spec_Decimal, s_spec_BagSize, s_spec_ShowBag, trivial⟩) TT 3 5 ps_spec_ReplyOf rs_spec_ReplyOf rfl, enters_fn (by kernel_rfl)⟩
@[reducible] def ps_laws_toStringS : List Par := [⟨.val, false, (.sl 9 .str)⟩]
@[reducible] def rs_laws_toStringS : List (Bool × Ty) := [(false, (.sl 9 .str))]
noncomputable def X_laws_toStringS : Ctx := ⟨Tryz.prog, GT, lkS [], 140, 5⟩
noncomputable def C_laws_toStringS : TakD ps_laws_toStringS → ValD ps_laws_toStringS → Option (MutD ps_laws_toStringS × ResD rs_laws_toStringS) := evF X_laws_toStringS TT 3 19 ps_laws_toStringS rs_laws_toStringS
noncomputable def L_laws_toStringS_3 (a : List (List UInt8)) (i : Int) (o2 : List (List UInt8)) : Option (MutD ps_laws_toStringS × ResD rs_laws_toStringS) := rsF X_laws_toStringS TT 3 19 ps_laws_toStringS rs_laws_toStringS 3 ⟨[(0, (.c (.bor .str a))), (3, (.c (.ref 0))), (4, (.c (.int .i64 i)))], [], [], [(.arr 9 .str o2)]⟩
theorem e_laws_toStringS (a : List (List UInt8)) : C_laws_toStringS () (a, ()) =
  bif leC 0 (↑(List.length a) : Int) && leC (↑(List.length a) : Int) (↑(List.length a) : Int) &&     leC ((↑(List.length a) : Int) * (↑16 : Int)) 140737488355328 &&   leC (↑(List.length a) : Int) 140737488355328 then
  L_laws_toStringS_3 a 0 (List.replicate (↑(List.length a) : Int).toNat [])
  else
  none := by
  kernel_rfl
theorem l_laws_toStringS_3 (a : List (List UInt8)) (i : Int) (o2 : List (List UInt8)) : L_laws_toStringS_3 a i o2 =
  bif ltC i (↑a.length : Int) then
  bif leC 0 i && ltC i (↑a.length : Int) then
  bif leC 0 i && ltC i (↑o2.length : Int) then
  L_laws_toStringS_3 a (IntKind.i64.wrap (i + 1)) (o2.set i.toNat (a.getD i.toNat []))
  else
  none
  else
  none
  else
  some ((), o2, ()) :=
  (rsF_eq X_laws_toStringS TT 3 19 ps_laws_toStringS rs_laws_toStringS 3 _).trans (by kernel_rfl)
theorem s_laws_toStringS : RowOk Tryz.prog GT 140 5 19 (.sig ⟨ps_laws_toStringS, rs_laws_toStringS, C_laws_toStringS⟩) := ⟨evF_sound (X := X_laws_toStringS) (tabOk bld0 trivial) TT 3 19 ps_laws_toStringS rs_laws_toStringS rfl, enters_fn (by kernel_rfl)⟩
@[reducible] def ps_laws_toAtom : List Par := [⟨.val, true, T_impl_Atom⟩]
@[reducible] def rs_laws_toAtom : List (Bool × Ty) := [(true, T_impl_Atom)]
noncomputable def X_laws_toAtom : Ctx := ⟨Tryz.prog, GT, lkS [], 140, 5⟩
noncomputable def C_laws_toAtom : TakD ps_laws_toAtom → ValD ps_laws_toAtom → Option (MutD ps_laws_toAtom × ResD rs_laws_toAtom) := evF X_laws_toAtom TT 3 56 ps_laws_toAtom rs_laws_toAtom
theorem e_laws_toAtom (a : T_impl_Atom.den) : C_laws_toAtom () (a, ()) =
  some ((), a, ()) := by
  kernel_rfl
theorem s_laws_toAtom : RowOk Tryz.prog GT 140 5 56 (.sig ⟨ps_laws_toAtom, rs_laws_toAtom, C_laws_toAtom⟩) := ⟨evF_sound (X := X_laws_toAtom) (tabOk bld0 trivial) TT 3 56 ps_laws_toAtom rs_laws_toAtom rfl, enters_fn (by kernel_rfl)⟩
@[reducible] def ps_laws_toAtomS : List Par := [⟨.val, false, (.sl 118 T_impl_Atom)⟩]
@[reducible] def rs_laws_toAtomS : List (Bool × Ty) := [(false, (.sl 129 T_impl_Atom))]
noncomputable def X_laws_toAtomS : Ctx := ⟨Tryz.prog, GT, lkS [(56, .sig ⟨ps_laws_toAtom, rs_laws_toAtom, C_laws_toAtom⟩)], 140, 5⟩
noncomputable def C_laws_toAtomS : TakD ps_laws_toAtomS → ValD ps_laws_toAtomS → Option (MutD ps_laws_toAtomS × ResD rs_laws_toAtomS) := evF X_laws_toAtomS TT 3 35 ps_laws_toAtomS rs_laws_toAtomS
noncomputable def L_laws_toAtomS_3 (a : List (T_impl_Atom.den)) (i : Int) (o2 : List (T_impl_Atom.den)) : Option (MutD ps_laws_toAtomS × ResD rs_laws_toAtomS) := rsF X_laws_toAtomS TT 3 35 ps_laws_toAtomS rs_laws_toAtomS 3 ⟨[(0, (.c (.bor T_impl_Atom a))), (3, (.c (.ref 0))), (4, (.c (.int .i64 i)))], [], [], [(.arr 129 T_impl_Atom o2)]⟩
theorem e_laws_toAtomS (a : List (T_impl_Atom.den)) : C_laws_toAtomS () (a, ()) =
  bif leC 0 (↑(List.length a) : Int) && leC (↑(List.length a) : Int) (↑(List.length a) : Int) &&     leC ((↑(List.length a) : Int) * (↑48 : Int)) 140737488355328 &&   leC (↑(List.length a) : Int) 140737488355328 then
  L_laws_toAtomS_3 a 0 (List.replicate (↑(List.length a) : Int).toNat ([], [], []))
  else
  none := by
  kernel_rfl
theorem l_laws_toAtomS_3 (a : List (T_impl_Atom.den)) (i : Int) (o2 : List (T_impl_Atom.den)) : L_laws_toAtomS_3 a i o2 =
  bif ltC i (↑a.length : Int) then
  bif leC 0 i && ltC i (↑a.length : Int) then
  Option.bind (C_laws_toAtom () (a.getD i.toNat T_impl_Atom.dflt, ())) fun c1 =>
  bif leC 0 i && ltC i (↑o2.length : Int) then
  L_laws_toAtomS_3 a (IntKind.i64.wrap (i + 1)) (o2.set i.toNat (c1.snd.fst.fst, c1.snd.fst.snd.fst, c1.snd.fst.snd.snd))
  else
  none
  else
  none
  else
  some ((), o2, ()) :=
  (rsF_eq X_laws_toAtomS TT 3 35 ps_laws_toAtomS rs_laws_toAtomS 3 _).trans (by kernel_rfl)
theorem s_laws_toAtomS : RowOk Tryz.prog GT 140 5 35 (.sig ⟨ps_laws_toAtomS, rs_laws_toAtomS, C_laws_toAtomS⟩) := ⟨evF_sound (X := X_laws_toAtomS) (tabOk bld0 ⟨s_laws_toAtom, trivial⟩) TT 3 35 ps_laws_toAtomS rs_laws_toAtomS rfl, enters_fn (by kernel_rfl)⟩
@[reducible] def ps_laws_toFilter : List Par := [⟨.val, true, T_impl_Filter⟩]
@[reducible] def rs_laws_toFilter : List (Bool × Ty) := [(true, T_impl_Filter)]
noncomputable def X_laws_toFilter : Ctx := ⟨Tryz.prog, GT, lkS [], 140, 5⟩
noncomputable def C_laws_toFilter : TakD ps_laws_toFilter → ValD ps_laws_toFilter → Option (MutD ps_laws_toFilter × ResD rs_laws_toFilter) := evF X_laws_toFilter TT 3 57 ps_laws_toFilter rs_laws_toFilter
theorem e_laws_toFilter (a : T_impl_Filter.den) : C_laws_toFilter () (a, ()) =
  some ((), a, ()) := by
  kernel_rfl
theorem s_laws_toFilter : RowOk Tryz.prog GT 140 5 57 (.sig ⟨ps_laws_toFilter, rs_laws_toFilter, C_laws_toFilter⟩) := ⟨evF_sound (X := X_laws_toFilter) (tabOk bld0 trivial) TT 3 57 ps_laws_toFilter rs_laws_toFilter rfl, enters_fn (by kernel_rfl)⟩
@[reducible] def ps_laws_toFilterS : List Par := [⟨.val, false, (.sl 121 T_impl_Filter)⟩]
@[reducible] def rs_laws_toFilterS : List (Bool × Ty) := [(false, (.sl 131 T_impl_Filter))]
noncomputable def X_laws_toFilterS : Ctx := ⟨Tryz.prog, GT, lkS [(57, .sig ⟨ps_laws_toFilter, rs_laws_toFilter, C_laws_toFilter⟩)], 140, 5⟩
noncomputable def C_laws_toFilterS : TakD ps_laws_toFilterS → ValD ps_laws_toFilterS → Option (MutD ps_laws_toFilterS × ResD rs_laws_toFilterS) := evF X_laws_toFilterS TT 3 36 ps_laws_toFilterS rs_laws_toFilterS
noncomputable def L_laws_toFilterS_3 (a : List (T_impl_Filter.den)) (i : Int) (o2 : List (T_impl_Filter.den)) : Option (MutD ps_laws_toFilterS × ResD rs_laws_toFilterS) := rsF X_laws_toFilterS TT 3 36 ps_laws_toFilterS rs_laws_toFilterS 3 ⟨[(0, (.c (.bor T_impl_Filter a))), (3, (.c (.ref 0))), (4, (.c (.int .i64 i)))], [], [], [(.arr 131 T_impl_Filter o2)]⟩
theorem e_laws_toFilterS (a : List (T_impl_Filter.den)) : C_laws_toFilterS () (a, ()) =
  bif leC 0 (↑(List.length a) : Int) && leC (↑(List.length a) : Int) (↑(List.length a) : Int) &&     leC ((↑(List.length a) : Int) * (↑48 : Int)) 140737488355328 &&   leC (↑(List.length a) : Int) 140737488355328 then
  L_laws_toFilterS_3 a 0 (List.replicate (↑(List.length a) : Int).toNat ([], 0, [], 0))
  else
  none := by
  kernel_rfl
theorem l_laws_toFilterS_3 (a : List (T_impl_Filter.den)) (i : Int) (o2 : List (T_impl_Filter.den)) : L_laws_toFilterS_3 a i o2 =
  bif ltC i (↑a.length : Int) then
  bif leC 0 i && ltC i (↑a.length : Int) then
  Option.bind (C_laws_toFilter () (a.getD i.toNat T_impl_Filter.dflt, ())) fun c1 =>
  bif leC 0 i && ltC i (↑o2.length : Int) then
  L_laws_toFilterS_3 a (IntKind.i64.wrap (i + 1)) (o2.set i.toNat (c1.snd.fst.fst, c1.snd.fst.snd.fst, c1.snd.fst.snd.snd.fst, c1.snd.fst.snd.snd.snd))
  else
  none
  else
  none
  else
  some ((), o2, ()) :=
  (rsF_eq X_laws_toFilterS TT 3 36 ps_laws_toFilterS rs_laws_toFilterS 3 _).trans (by kernel_rfl)
theorem s_laws_toFilterS : RowOk Tryz.prog GT 140 5 36 (.sig ⟨ps_laws_toFilterS, rs_laws_toFilterS, C_laws_toFilterS⟩) := ⟨evF_sound (X := X_laws_toFilterS) (tabOk bld0 ⟨s_laws_toFilter, trivial⟩) TT 3 36 ps_laws_toFilterS rs_laws_toFilterS rfl, enters_fn (by kernel_rfl)⟩
@[reducible] def ps_laws_toQuery : List Par := [⟨.val, true, T_laws_Query⟩]
@[reducible] def rs_laws_toQuery : List (Bool × Ty) := [(true, T_impl_Query)]
noncomputable def X_laws_toQuery : Ctx := ⟨Tryz.prog, GT, lkS [(19, .sig ⟨ps_laws_toStringS, rs_laws_toStringS, C_laws_toStringS⟩), (35, .sig ⟨ps_laws_toAtomS, rs_laws_toAtomS, C_laws_toAtomS⟩), (36, .sig ⟨ps_laws_toFilterS, rs_laws_toFilterS, C_laws_toFilterS⟩)], 140, 5⟩
noncomputable def C_laws_toQuery : TakD ps_laws_toQuery → ValD ps_laws_toQuery → Option (MutD ps_laws_toQuery × ResD rs_laws_toQuery) := evF X_laws_toQuery TT 3 17 ps_laws_toQuery rs_laws_toQuery
theorem e_laws_toQuery (a : T_laws_Query.den) : C_laws_toQuery () (a, ()) =
  Option.bind (C_laws_toStringS () (a.snd.fst, ())) fun c1 =>
  Option.bind (C_laws_toAtomS () (a.snd.snd.fst, ())) fun c2 =>
  Option.bind (C_laws_toFilterS () (a.snd.snd.snd, ())) fun c3 =>
  some ((), (a.fst, c1.snd.fst, c2.snd.fst, c3.snd.fst), ()) := by
  kernel_rfl
theorem s_laws_toQuery : RowOk Tryz.prog GT 140 5 17 (.sig ⟨ps_laws_toQuery, rs_laws_toQuery, C_laws_toQuery⟩) := ⟨evF_sound (X := X_laws_toQuery) (tabOk bld0 ⟨s_laws_toStringS, s_laws_toAtomS, s_laws_toFilterS, trivial⟩) TT 3 17 ps_laws_toQuery rs_laws_toQuery rfl, enters_fn (by kernel_rfl)⟩
@[reducible] def ps_laws_toFile : List Par := [⟨.val, true, T_impl_File⟩]
@[reducible] def rs_laws_toFile : List (Bool × Ty) := [(true, T_impl_File)]
noncomputable def X_laws_toFile : Ctx := ⟨Tryz.prog, GT, lkS [], 140, 5⟩
noncomputable def C_laws_toFile : TakD ps_laws_toFile → ValD ps_laws_toFile → Option (MutD ps_laws_toFile × ResD rs_laws_toFile) := evF X_laws_toFile TT 3 103 ps_laws_toFile rs_laws_toFile
theorem e_laws_toFile (a : T_impl_File.den) : C_laws_toFile () (a, ()) =
  some ((), a, ()) := by
  kernel_rfl
theorem s_laws_toFile : RowOk Tryz.prog GT 140 5 103 (.sig ⟨ps_laws_toFile, rs_laws_toFile, C_laws_toFile⟩) := ⟨evF_sound (X := X_laws_toFile) (tabOk bld0 trivial) TT 3 103 ps_laws_toFile rs_laws_toFile rfl, enters_fn (by kernel_rfl)⟩
@[reducible] def ps_laws_toFileS : List Par := [⟨.val, false, (.sl 182 T_impl_File)⟩]
@[reducible] def rs_laws_toFileS : List (Bool × Ty) := [(false, (.sl 191 T_impl_File))]
noncomputable def X_laws_toFileS : Ctx := ⟨Tryz.prog, GT, lkS [(103, .sig ⟨ps_laws_toFile, rs_laws_toFile, C_laws_toFile⟩)], 140, 5⟩
noncomputable def C_laws_toFileS : TakD ps_laws_toFileS → ValD ps_laws_toFileS → Option (MutD ps_laws_toFileS × ResD rs_laws_toFileS) := evF X_laws_toFileS TT 3 81 ps_laws_toFileS rs_laws_toFileS
noncomputable def L_laws_toFileS_3 (a : List (T_impl_File.den)) (i : Int) (o2 : List (T_impl_File.den)) : Option (MutD ps_laws_toFileS × ResD rs_laws_toFileS) := rsF X_laws_toFileS TT 3 81 ps_laws_toFileS rs_laws_toFileS 3 ⟨[(0, (.c (.bor T_impl_File a))), (3, (.c (.ref 0))), (4, (.c (.int .i64 i)))], [], [], [(.arr 191 T_impl_File o2)]⟩
theorem e_laws_toFileS (a : List (T_impl_File.den)) : C_laws_toFileS () (a, ()) =
  bif leC 0 (↑(List.length a) : Int) && leC (↑(List.length a) : Int) (↑(List.length a) : Int) &&     leC ((↑(List.length a) : Int) * (↑40 : Int)) 140737488355328 &&   leC (↑(List.length a) : Int) 140737488355328 then
  L_laws_toFileS_3 a 0 (List.replicate (↑(List.length a) : Int).toNat ([], [], 0))
  else
  none := by
  kernel_rfl
theorem l_laws_toFileS_3 (a : List (T_impl_File.den)) (i : Int) (o2 : List (T_impl_File.den)) : L_laws_toFileS_3 a i o2 =
  bif ltC i (↑a.length : Int) then
  bif leC 0 i && ltC i (↑a.length : Int) then
  Option.bind (C_laws_toFile () (a.getD i.toNat T_impl_File.dflt, ())) fun c1 =>
  bif leC 0 i && ltC i (↑o2.length : Int) then
  L_laws_toFileS_3 a (IntKind.i64.wrap (i + 1)) (o2.set i.toNat (c1.snd.fst.fst, c1.snd.fst.snd.fst, c1.snd.fst.snd.snd))
  else
  none
  else
  none
  else
  some ((), o2, ()) :=
  (rsF_eq X_laws_toFileS TT 3 81 ps_laws_toFileS rs_laws_toFileS 3 _).trans (by kernel_rfl)
theorem s_laws_toFileS : RowOk Tryz.prog GT 140 5 81 (.sig ⟨ps_laws_toFileS, rs_laws_toFileS, C_laws_toFileS⟩) := ⟨evF_sound (X := X_laws_toFileS) (tabOk bld0 ⟨s_laws_toFile, trivial⟩) TT 3 81 ps_laws_toFileS rs_laws_toFileS rfl, enters_fn (by kernel_rfl)⟩
@[reducible] def ps_laws_toDisk : List Par := [⟨.val, true, (.sl 182 T_impl_File)⟩]
@[reducible] def rs_laws_toDisk : List (Bool × Ty) := [(true, (.sl 191 T_impl_File))]
noncomputable def X_laws_toDisk : Ctx := ⟨Tryz.prog, GT, lkS [(81, .sig ⟨ps_laws_toFileS, rs_laws_toFileS, C_laws_toFileS⟩)], 140, 5⟩
noncomputable def C_laws_toDisk : TakD ps_laws_toDisk → ValD ps_laws_toDisk → Option (MutD ps_laws_toDisk × ResD rs_laws_toDisk) := evF X_laws_toDisk TT 3 58 ps_laws_toDisk rs_laws_toDisk
theorem e_laws_toDisk (a : List (T_impl_File.den)) : C_laws_toDisk () (a, ()) =
  Option.bind (C_laws_toFileS () (a, ())) fun c1 =>
  some ((), c1.snd.fst, ()) := by
  kernel_rfl
theorem s_laws_toDisk : RowOk Tryz.prog GT 140 5 58 (.sig ⟨ps_laws_toDisk, rs_laws_toDisk, C_laws_toDisk⟩) := ⟨evF_sound (X := X_laws_toDisk) (tabOk bld0 ⟨s_laws_toFileS, trivial⟩) TT 3 58 ps_laws_toDisk rs_laws_toDisk rfl, enters_fn (by kernel_rfl)⟩
@[reducible] def ps_laws_toLink : List Par := [⟨.val, true, T_impl_Link⟩]
@[reducible] def rs_laws_toLink : List (Bool × Ty) := [(true, T_impl_Link)]
noncomputable def X_laws_toLink : Ctx := ⟨Tryz.prog, GT, lkS [(19, .sig ⟨ps_laws_toStringS, rs_laws_toStringS, C_laws_toStringS⟩)], 140, 5⟩
noncomputable def C_laws_toLink : TakD ps_laws_toLink → ValD ps_laws_toLink → Option (MutD ps_laws_toLink × ResD rs_laws_toLink) := evF X_laws_toLink TT 3 82 ps_laws_toLink rs_laws_toLink
theorem e_laws_toLink (a : T_impl_Link.den) : C_laws_toLink () (a, ()) =
  Option.bind (C_laws_toStringS () (a.fst, ())) fun c1 =>
  some ((), (c1.snd.fst, a.snd), ()) := by
  kernel_rfl
theorem s_laws_toLink : RowOk Tryz.prog GT 140 5 82 (.sig ⟨ps_laws_toLink, rs_laws_toLink, C_laws_toLink⟩) := ⟨evF_sound (X := X_laws_toLink) (tabOk bld0 ⟨s_laws_toStringS, trivial⟩) TT 3 82 ps_laws_toLink rs_laws_toLink rfl, enters_fn (by kernel_rfl)⟩
@[reducible] def ps_laws_toLinkS : List Par := [⟨.val, false, (.sl 156 T_impl_Link)⟩]
@[reducible] def rs_laws_toLinkS : List (Bool × Ty) := [(false, (.sl 164 T_impl_Link))]
noncomputable def X_laws_toLinkS : Ctx := ⟨Tryz.prog, GT, lkS [(82, .sig ⟨ps_laws_toLink, rs_laws_toLink, C_laws_toLink⟩)], 140, 5⟩
noncomputable def C_laws_toLinkS : TakD ps_laws_toLinkS → ValD ps_laws_toLinkS → Option (MutD ps_laws_toLinkS × ResD rs_laws_toLinkS) := evF X_laws_toLinkS TT 3 59 ps_laws_toLinkS rs_laws_toLinkS
noncomputable def L_laws_toLinkS_3 (a : List (T_impl_Link.den)) (i : Int) (o2 : List (T_impl_Link.den)) : Option (MutD ps_laws_toLinkS × ResD rs_laws_toLinkS) := rsF X_laws_toLinkS TT 3 59 ps_laws_toLinkS rs_laws_toLinkS 3 ⟨[(0, (.c (.bor T_impl_Link a))), (3, (.c (.ref 0))), (4, (.c (.int .i64 i)))], [], [], [(.arr 164 T_impl_Link o2)]⟩
theorem e_laws_toLinkS (a : List (T_impl_Link.den)) : C_laws_toLinkS () (a, ()) =
  bif leC 0 (↑(List.length a) : Int) && leC (↑(List.length a) : Int) (↑(List.length a) : Int) &&     leC ((↑(List.length a) : Int) * (↑40 : Int)) 140737488355328 &&   leC (↑(List.length a) : Int) 140737488355328 then
  L_laws_toLinkS_3 a 0 (List.replicate (↑(List.length a) : Int).toNat ([], 0, 0))
  else
  none := by
  kernel_rfl
theorem l_laws_toLinkS_3 (a : List (T_impl_Link.den)) (i : Int) (o2 : List (T_impl_Link.den)) : L_laws_toLinkS_3 a i o2 =
  bif ltC i (↑a.length : Int) then
  bif leC 0 i && ltC i (↑a.length : Int) then
  Option.bind (C_laws_toLink () (a.getD i.toNat T_impl_Link.dflt, ())) fun c1 =>
  bif leC 0 i && ltC i (↑o2.length : Int) then
  L_laws_toLinkS_3 a (IntKind.i64.wrap (i + 1)) (o2.set i.toNat (c1.snd.fst.fst, c1.snd.fst.snd.fst, c1.snd.fst.snd.snd))
  else
  none
  else
  none
  else
  some ((), o2, ()) :=
  (rsF_eq X_laws_toLinkS TT 3 59 ps_laws_toLinkS rs_laws_toLinkS 3 _).trans (by kernel_rfl)
theorem s_laws_toLinkS : RowOk Tryz.prog GT 140 5 59 (.sig ⟨ps_laws_toLinkS, rs_laws_toLinkS, C_laws_toLinkS⟩) := ⟨evF_sound (X := X_laws_toLinkS) (tabOk bld0 ⟨s_laws_toLink, trivial⟩) TT 3 59 ps_laws_toLinkS rs_laws_toLinkS rfl, enters_fn (by kernel_rfl)⟩
@[reducible] def ps_laws_toIntS : List Par := [⟨.val, false, (.sl 3 (.int .i64))⟩]
@[reducible] def rs_laws_toIntS : List (Bool × Ty) := [(false, (.sl 3 (.int .i64)))]
noncomputable def X_laws_toIntS : Ctx := ⟨Tryz.prog, GT, lkS [], 140, 5⟩
noncomputable def C_laws_toIntS : TakD ps_laws_toIntS → ValD ps_laws_toIntS → Option (MutD ps_laws_toIntS × ResD rs_laws_toIntS) := evF X_laws_toIntS TT 3 20 ps_laws_toIntS rs_laws_toIntS
noncomputable def L_laws_toIntS_3 (a : List (Int)) (i : Int) (o2 : List (Int)) : Option (MutD ps_laws_toIntS × ResD rs_laws_toIntS) := rsF X_laws_toIntS TT 3 20 ps_laws_toIntS rs_laws_toIntS 3 ⟨[(0, (.c (.bor (.int .i64) a))), (3, (.c (.ref 0))), (4, (.c (.int .i64 i)))], [], [], [(.arr 3 (.int .i64) o2)]⟩
theorem e_laws_toIntS (a : List (Int)) : C_laws_toIntS () (a, ()) =
  bif leC 0 (↑(List.length a) : Int) && leC (↑(List.length a) : Int) (↑(List.length a) : Int) &&     leC ((↑(List.length a) : Int) * (↑8 : Int)) 140737488355328 &&   leC (↑(List.length a) : Int) 140737488355328 then
  L_laws_toIntS_3 a 0 (List.replicate (↑(List.length a) : Int).toNat 0)
  else
  none := by
  kernel_rfl
theorem l_laws_toIntS_3 (a : List (Int)) (i : Int) (o2 : List (Int)) : L_laws_toIntS_3 a i o2 =
  bif ltC i (↑a.length : Int) then
  bif leC 0 i && ltC i (↑a.length : Int) then
  bif leC 0 i && ltC i (↑o2.length : Int) then
  L_laws_toIntS_3 a (IntKind.i64.wrap (i + 1)) (o2.set i.toNat (a.getD i.toNat 0))
  else
  none
  else
  none
  else
  some ((), o2, ()) :=
  (rsF_eq X_laws_toIntS TT 3 20 ps_laws_toIntS rs_laws_toIntS 3 _).trans (by kernel_rfl)
theorem s_laws_toIntS : RowOk Tryz.prog GT 140 5 20 (.sig ⟨ps_laws_toIntS, rs_laws_toIntS, C_laws_toIntS⟩) := ⟨evF_sound (X := X_laws_toIntS) (tabOk bld0 trivial) TT 3 20 ps_laws_toIntS rs_laws_toIntS rfl, enters_fn (by kernel_rfl)⟩
@[reducible] def ps_laws_toWalk : List Par := [⟨.val, true, T_impl_Walk⟩]
@[reducible] def rs_laws_toWalk : List (Bool × Ty) := [(true, T_impl_Walk)]
noncomputable def X_laws_toWalk : Ctx := ⟨Tryz.prog, GT, lkS [], 140, 5⟩
noncomputable def C_laws_toWalk : TakD ps_laws_toWalk → ValD ps_laws_toWalk → Option (MutD ps_laws_toWalk × ResD rs_laws_toWalk) := evF X_laws_toWalk TT 3 104 ps_laws_toWalk rs_laws_toWalk
theorem e_laws_toWalk (a : T_impl_Walk.den) : C_laws_toWalk () (a, ()) =
  some ((), a, ()) := by
  kernel_rfl
theorem s_laws_toWalk : RowOk Tryz.prog GT 140 5 104 (.sig ⟨ps_laws_toWalk, rs_laws_toWalk, C_laws_toWalk⟩) := ⟨evF_sound (X := X_laws_toWalk) (tabOk bld0 trivial) TT 3 104 ps_laws_toWalk rs_laws_toWalk rfl, enters_fn (by kernel_rfl)⟩
@[reducible] def ps_laws_toWalkS : List Par := [⟨.val, false, (.sl 196 T_impl_Walk)⟩]
@[reducible] def rs_laws_toWalkS : List (Bool × Ty) := [(false, (.sl 194 T_impl_Walk))]
noncomputable def X_laws_toWalkS : Ctx := ⟨Tryz.prog, GT, lkS [(104, .sig ⟨ps_laws_toWalk, rs_laws_toWalk, C_laws_toWalk⟩)], 140, 5⟩
noncomputable def C_laws_toWalkS : TakD ps_laws_toWalkS → ValD ps_laws_toWalkS → Option (MutD ps_laws_toWalkS × ResD rs_laws_toWalkS) := evF X_laws_toWalkS TT 3 83 ps_laws_toWalkS rs_laws_toWalkS
noncomputable def L_laws_toWalkS_3 (a : List (T_impl_Walk.den)) (i : Int) (o2 : List (T_impl_Walk.den)) : Option (MutD ps_laws_toWalkS × ResD rs_laws_toWalkS) := rsF X_laws_toWalkS TT 3 83 ps_laws_toWalkS rs_laws_toWalkS 3 ⟨[(0, (.c (.bor T_impl_Walk a))), (3, (.c (.ref 0))), (4, (.c (.int .i64 i)))], [], [], [(.arr 194 T_impl_Walk o2)]⟩
theorem e_laws_toWalkS (a : List (T_impl_Walk.den)) : C_laws_toWalkS () (a, ()) =
  bif leC 0 (↑(List.length a) : Int) && leC (↑(List.length a) : Int) (↑(List.length a) : Int) &&     leC ((↑(List.length a) : Int) * (↑32 : Int)) 140737488355328 &&   leC (↑(List.length a) : Int) 140737488355328 then
  L_laws_toWalkS_3 a 0 (List.replicate (↑(List.length a) : Int).toNat (0, 0, 0, 0))
  else
  none := by
  kernel_rfl
theorem l_laws_toWalkS_3 (a : List (T_impl_Walk.den)) (i : Int) (o2 : List (T_impl_Walk.den)) : L_laws_toWalkS_3 a i o2 =
  bif ltC i (↑a.length : Int) then
  bif leC 0 i && ltC i (↑a.length : Int) then
  Option.bind (C_laws_toWalk () (a.getD i.toNat T_impl_Walk.dflt, ())) fun c1 =>
  bif leC 0 i && ltC i (↑o2.length : Int) then
  L_laws_toWalkS_3 a (IntKind.i64.wrap (i + 1)) (o2.set i.toNat (c1.snd.fst.fst, c1.snd.fst.snd.fst, c1.snd.fst.snd.snd.fst, c1.snd.fst.snd.snd.snd))
  else
  none
  else
  none
  else
  some ((), o2, ()) :=
  (rsF_eq X_laws_toWalkS TT 3 83 ps_laws_toWalkS rs_laws_toWalkS 3 _).trans (by kernel_rfl)
theorem s_laws_toWalkS : RowOk Tryz.prog GT 140 5 83 (.sig ⟨ps_laws_toWalkS, rs_laws_toWalkS, C_laws_toWalkS⟩) := ⟨evF_sound (X := X_laws_toWalkS) (tabOk bld0 ⟨s_laws_toWalk, trivial⟩) TT 3 83 ps_laws_toWalkS rs_laws_toWalkS rfl, enters_fn (by kernel_rfl)⟩
@[reducible] def ps_laws_toItem : List Par := [⟨.val, true, T_impl_Item⟩]
@[reducible] def rs_laws_toItem : List (Bool × Ty) := [(true, T_impl_Item)]
noncomputable def X_laws_toItem : Ctx := ⟨Tryz.prog, GT, lkS [(20, .sig ⟨ps_laws_toIntS, rs_laws_toIntS, C_laws_toIntS⟩)], 140, 5⟩
noncomputable def C_laws_toItem : TakD ps_laws_toItem → ValD ps_laws_toItem → Option (MutD ps_laws_toItem × ResD rs_laws_toItem) := evF X_laws_toItem TT 3 87 ps_laws_toItem rs_laws_toItem
theorem e_laws_toItem (a : T_impl_Item.den) : C_laws_toItem () (a, ()) =
  Option.bind (C_laws_toIntS () (a.fst, ())) fun c1 =>
  some ((), (c1.snd.fst, a.snd), ()) := by
  kernel_rfl
theorem s_laws_toItem : RowOk Tryz.prog GT 140 5 87 (.sig ⟨ps_laws_toItem, rs_laws_toItem, C_laws_toItem⟩) := ⟨evF_sound (X := X_laws_toItem) (tabOk bld0 ⟨s_laws_toIntS, trivial⟩) TT 3 87 ps_laws_toItem rs_laws_toItem rfl, enters_fn (by kernel_rfl)⟩
@[reducible] def ps_laws_toItemS : List Par := [⟨.val, false, (.sl 162 T_impl_Item)⟩]
@[reducible] def rs_laws_toItemS : List (Bool × Ty) := [(false, (.sl 92 T_impl_Item))]
noncomputable def X_laws_toItemS : Ctx := ⟨Tryz.prog, GT, lkS [(87, .sig ⟨ps_laws_toItem, rs_laws_toItem, C_laws_toItem⟩)], 140, 5⟩
noncomputable def C_laws_toItemS : TakD ps_laws_toItemS → ValD ps_laws_toItemS → Option (MutD ps_laws_toItemS × ResD rs_laws_toItemS) := evF X_laws_toItemS TT 3 62 ps_laws_toItemS rs_laws_toItemS
noncomputable def L_laws_toItemS_3 (a : List (T_impl_Item.den)) (i : Int) (o2 : List (T_impl_Item.den)) : Option (MutD ps_laws_toItemS × ResD rs_laws_toItemS) := rsF X_laws_toItemS TT 3 62 ps_laws_toItemS rs_laws_toItemS 3 ⟨[(0, (.c (.bor T_impl_Item a))), (3, (.c (.ref 0))), (4, (.c (.int .i64 i)))], [], [], [(.arr 92 T_impl_Item o2)]⟩
theorem e_laws_toItemS (a : List (T_impl_Item.den)) : C_laws_toItemS () (a, ()) =
  bif leC 0 (↑(List.length a) : Int) && leC (↑(List.length a) : Int) (↑(List.length a) : Int) &&     leC ((↑(List.length a) : Int) * (↑32 : Int)) 140737488355328 &&   leC (↑(List.length a) : Int) 140737488355328 then
  L_laws_toItemS_3 a 0 (List.replicate (↑(List.length a) : Int).toNat ([], 0))
  else
  none := by
  kernel_rfl
theorem l_laws_toItemS_3 (a : List (T_impl_Item.den)) (i : Int) (o2 : List (T_impl_Item.den)) : L_laws_toItemS_3 a i o2 =
  bif ltC i (↑a.length : Int) then
  bif leC 0 i && ltC i (↑a.length : Int) then
  Option.bind (C_laws_toItem () (a.getD i.toNat T_impl_Item.dflt, ())) fun c1 =>
  bif leC 0 i && ltC i (↑o2.length : Int) then
  L_laws_toItemS_3 a (IntKind.i64.wrap (i + 1)) (o2.set i.toNat (c1.snd.fst.fst, c1.snd.fst.snd))
  else
  none
  else
  none
  else
  some ((), o2, ()) :=
  (rsF_eq X_laws_toItemS TT 3 62 ps_laws_toItemS rs_laws_toItemS 3 _).trans (by kernel_rfl)
theorem s_laws_toItemS : RowOk Tryz.prog GT 140 5 62 (.sig ⟨ps_laws_toItemS, rs_laws_toItemS, C_laws_toItemS⟩) := ⟨evF_sound (X := X_laws_toItemS) (tabOk bld0 ⟨s_laws_toItem, trivial⟩) TT 3 62 ps_laws_toItemS rs_laws_toItemS rfl, enters_fn (by kernel_rfl)⟩
@[reducible] def ps_laws_toBag : List Par := [⟨.val, true, (.sl 162 T_impl_Item)⟩]
@[reducible] def rs_laws_toBag : List (Bool × Ty) := [(true, (.sl 92 T_impl_Item))]
noncomputable def X_laws_toBag : Ctx := ⟨Tryz.prog, GT, lkS [(62, .sig ⟨ps_laws_toItemS, rs_laws_toItemS, C_laws_toItemS⟩)], 140, 5⟩
noncomputable def C_laws_toBag : TakD ps_laws_toBag → ValD ps_laws_toBag → Option (MutD ps_laws_toBag × ResD rs_laws_toBag) := evF X_laws_toBag TT 3 38 ps_laws_toBag rs_laws_toBag
theorem e_laws_toBag (a : List (T_impl_Item.den)) : C_laws_toBag () (a, ()) =
  Option.bind (C_laws_toItemS () (a, ())) fun c1 =>
  some ((), c1.snd.fst, ()) := by
  kernel_rfl
theorem s_laws_toBag : RowOk Tryz.prog GT 140 5 38 (.sig ⟨ps_laws_toBag, rs_laws_toBag, C_laws_toBag⟩) := ⟨evF_sound (X := X_laws_toBag) (tabOk bld0 ⟨s_laws_toItemS, trivial⟩) TT 3 38 ps_laws_toBag rs_laws_toBag rfl, enters_fn (by kernel_rfl)⟩
@[reducible] def ps_laws_toGot : List Par := [⟨.val, true, T_laws_Got⟩]
@[reducible] def rs_laws_toGot : List (Bool × Ty) := [(true, T_impl_Got)]
noncomputable def X_laws_toGot : Ctx := ⟨Tryz.prog, GT, lkS [(38, .sig ⟨ps_laws_toBag, rs_laws_toBag, C_laws_toBag⟩)], 140, 5⟩
noncomputable def C_laws_toGot : TakD ps_laws_toGot → ValD ps_laws_toGot → Option (MutD ps_laws_toGot × ResD rs_laws_toGot) := evF X_laws_toGot TT 3 106 ps_laws_toGot rs_laws_toGot
theorem e_laws_toGot (a : T_laws_Got.den) : C_laws_toGot () (a, ()) =
  Option.bind (C_laws_toBag () (a.snd.snd, ())) fun c1 =>
  some ((), (a.fst, a.snd.fst, c1.snd.fst), ()) := by
  kernel_rfl
theorem s_laws_toGot : RowOk Tryz.prog GT 140 5 106 (.sig ⟨ps_laws_toGot, rs_laws_toGot, C_laws_toGot⟩) := ⟨evF_sound (X := X_laws_toGot) (tabOk bld0 ⟨s_laws_toBag, trivial⟩) TT 3 106 ps_laws_toGot rs_laws_toGot rfl, enters_fn (by kernel_rfl)⟩
@[reducible] def ps_laws_toGotS : List Par := [⟨.val, false, (.sl 190 T_laws_Got)⟩]
@[reducible] def rs_laws_toGotS : List (Bool × Ty) := [(false, (.sl 203 T_impl_Got))]
noncomputable def X_laws_toGotS : Ctx := ⟨Tryz.prog, GT, lkS [(106, .sig ⟨ps_laws_toGot, rs_laws_toGot, C_laws_toGot⟩)], 140, 5⟩
noncomputable def C_laws_toGotS : TakD ps_laws_toGotS → ValD ps_laws_toGotS → Option (MutD ps_laws_toGotS × ResD rs_laws_toGotS) := evF X_laws_toGotS TT 3 86 ps_laws_toGotS rs_laws_toGotS
noncomputable def L_laws_toGotS_3 (a : List (T_laws_Got.den)) (i : Int) (o2 : List (T_impl_Got.den)) : Option (MutD ps_laws_toGotS × ResD rs_laws_toGotS) := rsF X_laws_toGotS TT 3 86 ps_laws_toGotS rs_laws_toGotS 3 ⟨[(0, (.c (.bor T_laws_Got a))), (3, (.c (.ref 0))), (4, (.c (.int .i64 i)))], [], [], [(.arr 203 T_impl_Got o2)]⟩
theorem e_laws_toGotS (a : List (T_laws_Got.den)) : C_laws_toGotS () (a, ()) =
  bif leC 0 (↑(List.length a) : Int) && leC (↑(List.length a) : Int) (↑(List.length a) : Int) &&     leC ((↑(List.length a) : Int) * (↑40 : Int)) 140737488355328 &&   leC (↑(List.length a) : Int) 140737488355328 then
  L_laws_toGotS_3 a 0 (List.replicate (↑(List.length a) : Int).toNat (0, 0, []))
  else
  none := by
  kernel_rfl
theorem l_laws_toGotS_3 (a : List (T_laws_Got.den)) (i : Int) (o2 : List (T_impl_Got.den)) : L_laws_toGotS_3 a i o2 =
  bif ltC i (↑a.length : Int) then
  bif leC 0 i && ltC i (↑a.length : Int) then
  Option.bind (C_laws_toGot () (a.getD i.toNat T_laws_Got.dflt, ())) fun c1 =>
  bif leC 0 i && ltC i (↑o2.length : Int) then
  L_laws_toGotS_3 a (IntKind.i64.wrap (i + 1)) (o2.set i.toNat (c1.snd.fst.fst, c1.snd.fst.snd.fst, c1.snd.fst.snd.snd))
  else
  none
  else
  none
  else
  some ((), o2, ()) :=
  (rsF_eq X_laws_toGotS TT 3 86 ps_laws_toGotS rs_laws_toGotS 3 _).trans (by kernel_rfl)
theorem s_laws_toGotS : RowOk Tryz.prog GT 140 5 86 (.sig ⟨ps_laws_toGotS, rs_laws_toGotS, C_laws_toGotS⟩) := ⟨evF_sound (X := X_laws_toGotS) (tabOk bld0 ⟨s_laws_toGot, trivial⟩) TT 3 86 ps_laws_toGotS rs_laws_toGotS rfl, enters_fn (by kernel_rfl)⟩
@[reducible] def ps_laws_toCell : List Par := [⟨.val, true, T_laws_Cell⟩]
@[reducible] def rs_laws_toCell : List (Bool × Ty) := [(true, T_impl_Cell)]
noncomputable def X_laws_toCell : Ctx := ⟨Tryz.prog, GT, lkS [(17, .sig ⟨ps_laws_toQuery, rs_laws_toQuery, C_laws_toQuery⟩), (20, .sig ⟨ps_laws_toIntS, rs_laws_toIntS, C_laws_toIntS⟩), (86, .sig ⟨ps_laws_toGotS, rs_laws_toGotS, C_laws_toGotS⟩)], 140, 5⟩
noncomputable def C_laws_toCell : TakD ps_laws_toCell → ValD ps_laws_toCell → Option (MutD ps_laws_toCell × ResD rs_laws_toCell) := evF X_laws_toCell TT 3 84 ps_laws_toCell rs_laws_toCell
theorem e_laws_toCell (a : T_laws_Cell.den) : C_laws_toCell () (a, ()) =
  Option.bind (C_laws_toQuery () (a.fst, ())) fun c1 =>
  Option.bind (C_laws_toIntS () (a.snd.fst, ())) fun c2 =>
  Option.bind (C_laws_toGotS () (a.snd.snd.snd.snd, ())) fun c3 =>
  some ((), (c1.snd.fst, c2.snd.fst, a.snd.snd.fst, a.snd.snd.snd.fst, c3.snd.fst), ()) := by
  kernel_rfl
theorem s_laws_toCell : RowOk Tryz.prog GT 140 5 84 (.sig ⟨ps_laws_toCell, rs_laws_toCell, C_laws_toCell⟩) := ⟨evF_sound (X := X_laws_toCell) (tabOk bld0 ⟨s_laws_toQuery, s_laws_toIntS, s_laws_toGotS, trivial⟩) TT 3 84 ps_laws_toCell rs_laws_toCell rfl, enters_fn (by kernel_rfl)⟩
@[reducible] def ps_laws_toLetter : List Par := [⟨.val, true, T_laws_Letter⟩]
@[reducible] def rs_laws_toLetter : List (Bool × Ty) := [(true, T_impl_Letter)]
noncomputable def X_laws_toLetter : Ctx := ⟨Tryz.prog, GT, lkS [(83, .sig ⟨ps_laws_toWalkS, rs_laws_toWalkS, C_laws_toWalkS⟩)], 140, 5⟩
noncomputable def C_laws_toLetter : TakD ps_laws_toLetter → ValD ps_laws_toLetter → Option (MutD ps_laws_toLetter × ResD rs_laws_toLetter) := evF X_laws_toLetter TT 3 115 ps_laws_toLetter rs_laws_toLetter
theorem e_laws_toLetter (a : T_laws_Letter.den) : C_laws_toLetter () (a, ()) =
  Option.bind (C_laws_toWalkS () (a.snd.snd.snd.snd.fst, ())) fun c1 =>
  some ((), (a.fst, a.snd.fst, a.snd.snd.fst, a.snd.snd.snd.fst, c1.snd.fst, a.snd.snd.snd.snd.snd), ()) := by
  kernel_rfl
theorem s_laws_toLetter : RowOk Tryz.prog GT 140 5 115 (.sig ⟨ps_laws_toLetter, rs_laws_toLetter, C_laws_toLetter⟩) := ⟨evF_sound (X := X_laws_toLetter) (tabOk bld0 ⟨s_laws_toWalkS, trivial⟩) TT 3 115 ps_laws_toLetter rs_laws_toLetter rfl, enters_fn (by kernel_rfl)⟩
@[reducible] def ps_laws_toMail : List Par := [⟨.val, true, T_laws_Mail⟩]
@[reducible] def rs_laws_toMail : List (Bool × Ty) := [(true, T_impl_Mail)]
noncomputable def X_laws_toMail : Ctx := ⟨Tryz.prog, GT, lkS [(115, .sig ⟨ps_laws_toLetter, rs_laws_toLetter, C_laws_toLetter⟩)], 140, 5⟩
noncomputable def C_laws_toMail : TakD ps_laws_toMail → ValD ps_laws_toMail → Option (MutD ps_laws_toMail × ResD rs_laws_toMail) := evF X_laws_toMail TT 3 105 ps_laws_toMail rs_laws_toMail
theorem e_laws_toMail (a : T_laws_Mail.den) : C_laws_toMail () (a, ()) =
  Option.bind (C_laws_toLetter () (a.snd, ())) fun c1 =>
  some ((), (a.fst, c1.snd.fst), ()) := by
  kernel_rfl
theorem s_laws_toMail : RowOk Tryz.prog GT 140 5 105 (.sig ⟨ps_laws_toMail, rs_laws_toMail, C_laws_toMail⟩) := ⟨evF_sound (X := X_laws_toMail) (tabOk bld0 ⟨s_laws_toLetter, trivial⟩) TT 3 105 ps_laws_toMail rs_laws_toMail rfl, enters_fn (by kernel_rfl)⟩
@[reducible] def ps_laws_toMailS : List Par := [⟨.val, false, (.sl 187 T_laws_Mail)⟩]
@[reducible] def rs_laws_toMailS : List (Bool × Ty) := [(false, (.sl 200 T_impl_Mail))]
noncomputable def X_laws_toMailS : Ctx := ⟨Tryz.prog, GT, lkS [(105, .sig ⟨ps_laws_toMail, rs_laws_toMail, C_laws_toMail⟩)], 140, 5⟩
noncomputable def C_laws_toMailS : TakD ps_laws_toMailS → ValD ps_laws_toMailS → Option (MutD ps_laws_toMailS × ResD rs_laws_toMailS) := evF X_laws_toMailS TT 3 85 ps_laws_toMailS rs_laws_toMailS
noncomputable def L_laws_toMailS_3 (a : List (T_laws_Mail.den)) (i : Int) (o2 : List (T_impl_Mail.den)) : Option (MutD ps_laws_toMailS × ResD rs_laws_toMailS) := rsF X_laws_toMailS TT 3 85 ps_laws_toMailS rs_laws_toMailS 3 ⟨[(0, (.c (.bor T_laws_Mail a))), (3, (.c (.ref 0))), (4, (.c (.int .i64 i)))], [], [], [(.arr 200 T_impl_Mail o2)]⟩
theorem e_laws_toMailS (a : List (T_laws_Mail.den)) : C_laws_toMailS () (a, ()) =
  bif leC 0 (↑(List.length a) : Int) && leC (↑(List.length a) : Int) (↑(List.length a) : Int) &&     leC ((↑(List.length a) : Int) * (↑80 : Int)) 140737488355328 &&   leC (↑(List.length a) : Int) 140737488355328 then
  L_laws_toMailS_3 a 0 (List.replicate (↑(List.length a) : Int).toNat (0, 0, 0, 0, false, [], []))
  else
  none := by
  kernel_rfl
theorem l_laws_toMailS_3 (a : List (T_laws_Mail.den)) (i : Int) (o2 : List (T_impl_Mail.den)) : L_laws_toMailS_3 a i o2 =
  bif ltC i (↑a.length : Int) then
  bif leC 0 i && ltC i (↑a.length : Int) then
  Option.bind (C_laws_toMail () (a.getD i.toNat T_laws_Mail.dflt, ())) fun c1 =>
  bif leC 0 i && ltC i (↑o2.length : Int) then
  L_laws_toMailS_3 a (IntKind.i64.wrap (i + 1)) (o2.set i.toNat   (c1.snd.fst.fst, c1.snd.fst.snd.fst, c1.snd.fst.snd.snd.fst, c1.snd.fst.snd.snd.snd.fst,     c1.snd.fst.snd.snd.snd.snd.fst, c1.snd.fst.snd.snd.snd.snd.snd.fst, c1.snd.fst.snd.snd.snd.snd.snd.snd))
  else
  none
  else
  none
  else
  some ((), o2, ()) :=
  (rsF_eq X_laws_toMailS TT 3 85 ps_laws_toMailS rs_laws_toMailS 3 _).trans (by kernel_rfl)
theorem s_laws_toMailS : RowOk Tryz.prog GT 140 5 85 (.sig ⟨ps_laws_toMailS, rs_laws_toMailS, C_laws_toMailS⟩) := ⟨evF_sound (X := X_laws_toMailS) (tabOk bld0 ⟨s_laws_toMail, trivial⟩) TT 3 85 ps_laws_toMailS rs_laws_toMailS rfl, enters_fn (by kernel_rfl)⟩
@[reducible] def ps_laws_toWork : List Par := [⟨.val, true, T_laws_Work⟩]
@[reducible] def rs_laws_toWork : List (Bool × Ty) := [(true, T_impl_Work)]
noncomputable def X_laws_toWork : Ctx := ⟨Tryz.prog, GT, lkS [(17, .sig ⟨ps_laws_toQuery, rs_laws_toQuery, C_laws_toQuery⟩), (20, .sig ⟨ps_laws_toIntS, rs_laws_toIntS, C_laws_toIntS⟩), (83, .sig ⟨ps_laws_toWalkS, rs_laws_toWalkS, C_laws_toWalkS⟩), (84, .sig ⟨ps_laws_toCell, rs_laws_toCell, C_laws_toCell⟩), (85, .sig ⟨ps_laws_toMailS, rs_laws_toMailS, C_laws_toMailS⟩)], 140, 5⟩
noncomputable def C_laws_toWork : TakD ps_laws_toWork → ValD ps_laws_toWork → Option (MutD ps_laws_toWork × ResD rs_laws_toWork) := evF X_laws_toWork TT 3 60 ps_laws_toWork rs_laws_toWork
theorem e_laws_toWork (a : T_laws_Work.den) : C_laws_toWork () (a, ()) =
  Option.bind (C_laws_toQuery () (a.snd.fst, ())) fun c1 =>
  Option.bind (C_laws_toIntS () (a.snd.snd.fst, ())) fun c2 =>
  Option.bind (C_laws_toWalkS () (a.snd.snd.snd.snd.fst, ())) fun c3 =>
  Option.bind (C_laws_toCell () (a.snd.snd.snd.snd.snd.snd.snd.snd.snd.snd.snd.fst, ())) fun c4 =>
  Option.bind (C_laws_toMailS () (a.snd.snd.snd.snd.snd.snd.snd.snd.snd.snd.snd.snd.snd, ())) fun c5 =>
  some ((),   (a.fst, c1.snd.fst, c2.snd.fst, a.snd.snd.snd.fst, c3.snd.fst, a.snd.snd.snd.snd.snd.fst,     a.snd.snd.snd.snd.snd.snd.fst, a.snd.snd.snd.snd.snd.snd.snd.fst, a.snd.snd.snd.snd.snd.snd.snd.snd.fst,     a.snd.snd.snd.snd.snd.snd.snd.snd.snd.fst, a.snd.snd.snd.snd.snd.snd.snd.snd.snd.snd.fst, c4.snd.fst,     a.snd.snd.snd.snd.snd.snd.snd.snd.snd.snd.snd.snd.fst, c5.snd.fst),   ()) := by
  kernel_rfl
theorem s_laws_toWork : RowOk Tryz.prog GT 140 5 60 (.sig ⟨ps_laws_toWork, rs_laws_toWork, C_laws_toWork⟩) := ⟨evF_sound (X := X_laws_toWork) (tabOk bld0 ⟨s_laws_toQuery, s_laws_toIntS, s_laws_toWalkS, s_laws_toCell, s_laws_toMailS, trivial⟩) TT 3 60 ps_laws_toWork rs_laws_toWork rfl, enters_fn (by kernel_rfl)⟩
@[reducible] def ps_laws_toAsk : List Par := [⟨.val, true, T_laws_Ask⟩]
@[reducible] def rs_laws_toAsk : List (Bool × Ty) := [(true, T_impl_Ask)]
noncomputable def X_laws_toAsk : Ctx := ⟨Tryz.prog, GT, lkS [(17, .sig ⟨ps_laws_toQuery, rs_laws_toQuery, C_laws_toQuery⟩), (20, .sig ⟨ps_laws_toIntS, rs_laws_toIntS, C_laws_toIntS⟩), (38, .sig ⟨ps_laws_toBag, rs_laws_toBag, C_laws_toBag⟩), (86, .sig ⟨ps_laws_toGotS, rs_laws_toGotS, C_laws_toGotS⟩)], 140, 5⟩
noncomputable def C_laws_toAsk : TakD ps_laws_toAsk → ValD ps_laws_toAsk → Option (MutD ps_laws_toAsk × ResD rs_laws_toAsk) := evF X_laws_toAsk TT 3 61 ps_laws_toAsk rs_laws_toAsk
theorem e_laws_toAsk (a : T_laws_Ask.den) : C_laws_toAsk () (a, ()) =
  Option.bind (C_laws_toQuery () (a.snd.fst, ())) fun c1 =>
  Option.bind (C_laws_toIntS () (a.snd.snd.fst, ())) fun c2 =>
  Option.bind (C_laws_toGotS () (a.snd.snd.snd.snd.fst, ())) fun c3 =>
  Option.bind (C_laws_toBag () (a.snd.snd.snd.snd.snd.snd, ())) fun c4 =>
  some ((), (a.fst, c1.snd.fst, c2.snd.fst, a.snd.snd.snd.fst, c3.snd.fst, a.snd.snd.snd.snd.snd.fst, c4.snd.fst), ()) := by
  kernel_rfl
theorem s_laws_toAsk : RowOk Tryz.prog GT 140 5 61 (.sig ⟨ps_laws_toAsk, rs_laws_toAsk, C_laws_toAsk⟩) := ⟨evF_sound (X := X_laws_toAsk) (tabOk bld0 ⟨s_laws_toQuery, s_laws_toIntS, s_laws_toBag, s_laws_toGotS, trivial⟩) TT 3 61 ps_laws_toAsk rs_laws_toAsk rfl, enters_fn (by kernel_rfl)⟩
@[reducible] def ps_laws_toNode : List Par := [⟨.val, true, T_laws_Node⟩]
@[reducible] def rs_laws_toNode : List (Bool × Ty) := [(true, T_impl_Node)]
noncomputable def X_laws_toNode : Ctx := ⟨Tryz.prog, GT, lkS [(58, .sig ⟨ps_laws_toDisk, rs_laws_toDisk, C_laws_toDisk⟩), (59, .sig ⟨ps_laws_toLinkS, rs_laws_toLinkS, C_laws_toLinkS⟩), (60, .sig ⟨ps_laws_toWork, rs_laws_toWork, C_laws_toWork⟩), (61, .sig ⟨ps_laws_toAsk, rs_laws_toAsk, C_laws_toAsk⟩)], 140, 5⟩
noncomputable def C_laws_toNode : TakD ps_laws_toNode → ValD ps_laws_toNode → Option (MutD ps_laws_toNode × ResD rs_laws_toNode) := evF X_laws_toNode TT 3 37 ps_laws_toNode rs_laws_toNode
theorem e_laws_toNode (a : T_laws_Node.den) : C_laws_toNode () (a, ()) =
  Option.bind (C_laws_toDisk () (a.snd.snd.fst, ())) fun c1 =>
  Option.bind (C_laws_toLinkS () (a.snd.snd.snd.snd.snd.fst, ())) fun c2 =>
  Option.bind (C_laws_toWork () (a.snd.snd.snd.snd.snd.snd.fst, ())) fun c3 =>
  Option.bind (C_laws_toAsk () (a.snd.snd.snd.snd.snd.snd.snd, ())) fun c4 =>
  some ((), (a.fst, a.snd.fst, c1.snd.fst, a.snd.snd.snd.fst, a.snd.snd.snd.snd.fst, c2.snd.fst, c3.snd.fst, c4.snd.fst), ()) := by
  kernel_rfl
theorem s_laws_toNode : RowOk Tryz.prog GT 140 5 37 (.sig ⟨ps_laws_toNode, rs_laws_toNode, C_laws_toNode⟩) := ⟨evF_sound (X := X_laws_toNode) (tabOk bld0 ⟨s_laws_toDisk, s_laws_toLinkS, s_laws_toWork, s_laws_toAsk, trivial⟩) TT 3 37 ps_laws_toNode rs_laws_toNode rfl, enters_fn (by kernel_rfl)⟩
@[reducible] def ps_laws_toNodeS : List Par := [⟨.val, false, (.sl 86 T_laws_Node)⟩]
@[reducible] def rs_laws_toNodeS : List (Bool × Ty) := [(false, (.sl 109 T_impl_Node))]
noncomputable def X_laws_toNodeS : Ctx := ⟨Tryz.prog, GT, lkS [(37, .sig ⟨ps_laws_toNode, rs_laws_toNode, C_laws_toNode⟩)], 140, 5⟩
noncomputable def C_laws_toNodeS : TakD ps_laws_toNodeS → ValD ps_laws_toNodeS → Option (MutD ps_laws_toNodeS × ResD rs_laws_toNodeS) := evF X_laws_toNodeS TT 3 18 ps_laws_toNodeS rs_laws_toNodeS
noncomputable def L_laws_toNodeS_3 (a : List (T_laws_Node.den)) (i : Int) (o2 : List (T_impl_Node.den)) : Option (MutD ps_laws_toNodeS × ResD rs_laws_toNodeS) := rsF X_laws_toNodeS TT 3 18 ps_laws_toNodeS rs_laws_toNodeS 3 ⟨[(0, (.c (.bor T_laws_Node a))), (3, (.c (.ref 0))), (4, (.c (.int .i64 i)))], [], [], [(.arr 109 T_impl_Node o2)]⟩
theorem e_laws_toNodeS (a : List (T_laws_Node.den)) : C_laws_toNodeS () (a, ()) =
  bif leC 0 (↑(List.length a) : Int) && leC (↑(List.length a) : Int) (↑(List.length a) : Int) &&     leC ((↑(List.length a) : Int) * (↑608 : Int)) 140737488355328 &&   leC (↑(List.length a) : Int) 140737488355328 then
  L_laws_toNodeS_3 a 0 (List.replicate (↑(List.length a) : Int).toNat   (0, false, [], 0, false, [],     (false, (false, [], [], []), [], 0, [], 0, false, false, 0, false, false, ((false, [], [], []), [], 0, 0, []),       false, []),     false, (false, [], [], []), [], 0, [], false, []))
  else
  none := by
  kernel_rfl
theorem l_laws_toNodeS_3 (a : List (T_laws_Node.den)) (i : Int) (o2 : List (T_impl_Node.den)) : L_laws_toNodeS_3 a i o2 =
  bif ltC i (↑a.length : Int) then
  bif leC 0 i && ltC i (↑a.length : Int) then
  Option.bind (C_laws_toNode () (a.getD i.toNat T_laws_Node.dflt, ())) fun c1 =>
  bif leC 0 i && ltC i (↑o2.length : Int) then
  L_laws_toNodeS_3 a (IntKind.i64.wrap (i + 1)) (o2.set i.toNat   (c1.snd.fst.fst, c1.snd.fst.snd.fst, c1.snd.fst.snd.snd.fst, c1.snd.fst.snd.snd.snd.fst,     c1.snd.fst.snd.snd.snd.snd.fst, c1.snd.fst.snd.snd.snd.snd.snd.fst,     (c1.snd.fst.snd.snd.snd.snd.snd.snd.fst.fst,       (c1.snd.fst.snd.snd.snd.snd.snd.snd.fst.snd.fst.fst, c1.snd.fst.snd.snd.snd.snd.snd.snd.fst.snd.fst.snd.fst,         c1.snd.fst.snd.snd.snd.snd.snd.snd.fst.snd.fst.snd.snd.fst,         c1.snd.fst.snd.snd.snd.snd.snd.snd.fst.snd.fst.snd.snd.snd),       c1.snd.fst.snd.snd.snd.snd.snd.snd.fst.snd.snd.fst, c1.snd.fst.snd.snd.snd.snd.snd.snd.fst.snd.snd.snd.fst,       c1.snd.fst.snd.snd.snd.snd.snd.snd.fst.snd.snd.snd.snd.fst,       c1.snd.fst.snd.snd.snd.snd.snd.snd.fst.snd.snd.snd.snd.snd.fst,       c1.snd.fst.snd.snd.snd.snd.snd.snd.fst.snd.snd.snd.snd.snd.snd.fst,       c1.snd.fst.snd.snd.snd.snd.snd.snd.fst.snd.snd.snd.snd.snd.snd.snd.fst,       c1.snd.fst.snd.snd.snd.snd.snd.snd.fst.snd.snd.snd.snd.snd.snd.snd.snd.fst,       c1.snd.fst.snd.snd.snd.snd.snd.snd.fst.snd.snd.snd.snd.snd.snd.snd.snd.snd.fst,       c1.snd.fst.snd.snd.snd.snd.snd.snd.fst.snd.snd.snd.snd.snd.snd.snd.snd.snd.snd.fst,       ((c1.snd.fst.snd.snd.snd.snd.snd.snd.fst.snd.snd.snd.snd.snd.snd.snd.snd.snd.snd.snd.fst.fst.fst,           c1.snd.fst.snd.snd.snd.snd.snd.snd.fst.snd.snd.snd.snd.snd.snd.snd.snd.snd.snd.snd.fst.fst.snd.fst,           c1.snd.fst.snd.snd.snd.snd.snd.snd.fst.snd.snd.snd.snd.snd.snd.snd.snd.snd.snd.snd.fst.fst.snd.snd.fst,           c1.snd.fst.snd.snd.snd.snd.snd.snd.fst.snd.snd.snd.snd.snd.snd.snd.snd.snd.snd.snd.fst.fst.snd.snd.snd),         c1.snd.fst.snd.snd.snd.snd.snd.snd.fst.snd.snd.snd.snd.snd.snd.snd.snd.snd.snd.snd.fst.snd.fst,         c1.snd.fst.snd.snd.snd.snd.snd.snd.fst.snd.snd.snd.snd.snd.snd.snd.snd.snd.snd.snd.fst.snd.snd.fst,         c1.snd.fst.snd.snd.snd.snd.snd.snd.fst.snd.snd.snd.snd.snd.snd.snd.snd.snd.snd.snd.fst.snd.snd.snd.fst,         c1.snd.fst.snd.snd.snd.snd.snd.snd.fst.snd.snd.snd.snd.snd.snd.snd.snd.snd.snd.snd.fst.snd.snd.snd.snd),       c1.snd.fst.snd.snd.snd.snd.snd.snd.fst.snd.snd.snd.snd.snd.snd.snd.snd.snd.snd.snd.snd.fst,       c1.snd.fst.snd.snd.snd.snd.snd.snd.fst.snd.snd.snd.snd.snd.snd.snd.snd.snd.snd.snd.snd.snd),     c1.snd.fst.snd.snd.snd.snd.snd.snd.snd.fst,     (c1.snd.fst.snd.snd.snd.snd.snd.snd.snd.snd.fst.fst, c1.snd.fst.snd.snd.snd.snd.snd.snd.snd.snd.fst.snd.fst,       c1.snd.fst.snd.snd.snd.snd.snd.snd.snd.snd.fst.snd.snd.fst,       c1.snd.fst.snd.snd.snd.snd.snd.snd.snd.snd.fst.snd.snd.snd),     c1.snd.fst.snd.snd.snd.snd.snd.snd.snd.snd.snd.fst, c1.snd.fst.snd.snd.snd.snd.snd.snd.snd.snd.snd.snd.fst,     c1.snd.fst.snd.snd.snd.snd.snd.snd.snd.snd.snd.snd.snd.fst,     c1.snd.fst.snd.snd.snd.snd.snd.snd.snd.snd.snd.snd.snd.snd.fst,     c1.snd.fst.snd.snd.snd.snd.snd.snd.snd.snd.snd.snd.snd.snd.snd))
  else
  none
  else
  none
  else
  some ((), o2, ()) :=
  (rsF_eq X_laws_toNodeS TT 3 18 ps_laws_toNodeS rs_laws_toNodeS 3 _).trans (by kernel_rfl)
theorem s_laws_toNodeS : RowOk Tryz.prog GT 140 5 18 (.sig ⟨ps_laws_toNodeS, rs_laws_toNodeS, C_laws_toNodeS⟩) := ⟨evF_sound (X := X_laws_toNodeS) (tabOk bld0 ⟨s_laws_toNode, trivial⟩) TT 3 18 ps_laws_toNodeS rs_laws_toNodeS rfl, enters_fn (by kernel_rfl)⟩
@[reducible] def ps_laws_toBagS : List Par := [⟨.val, false, (.sl 82 (.sl 162 T_impl_Item))⟩]
@[reducible] def rs_laws_toBagS : List (Bool × Ty) := [(false, (.sl 52 (.sl 92 T_impl_Item)))]
noncomputable def X_laws_toBagS : Ctx := ⟨Tryz.prog, GT, lkS [(38, .sig ⟨ps_laws_toBag, rs_laws_toBag, C_laws_toBag⟩)], 140, 5⟩
noncomputable def C_laws_toBagS : TakD ps_laws_toBagS → ValD ps_laws_toBagS → Option (MutD ps_laws_toBagS × ResD rs_laws_toBagS) := evF X_laws_toBagS TT 3 21 ps_laws_toBagS rs_laws_toBagS
noncomputable def L_laws_toBagS_3 (a : List (List (T_impl_Item.den))) (i : Int) (o2 : List (List (T_impl_Item.den))) : Option (MutD ps_laws_toBagS × ResD rs_laws_toBagS) := rsF X_laws_toBagS TT 3 21 ps_laws_toBagS rs_laws_toBagS 3 ⟨[(0, (.c (.bor (.sl 162 T_impl_Item) a))), (3, (.c (.ref 0))), (4, (.c (.int .i64 i)))], [], [], [(.arr 52 (.sl 92 T_impl_Item) o2)]⟩
theorem e_laws_toBagS (a : List (List (T_impl_Item.den))) : C_laws_toBagS () (a, ()) =
  bif leC 0 (↑(List.length a) : Int) && leC (↑(List.length a) : Int) (↑(List.length a) : Int) &&     leC ((↑(List.length a) : Int) * (↑24 : Int)) 140737488355328 &&   leC (↑(List.length a) : Int) 140737488355328 then
  L_laws_toBagS_3 a 0 (List.replicate (↑(List.length a) : Int).toNat [])
  else
  none := by
  kernel_rfl
theorem l_laws_toBagS_3 (a : List (List (T_impl_Item.den))) (i : Int) (o2 : List (List (T_impl_Item.den))) : L_laws_toBagS_3 a i o2 =
  bif ltC i (↑a.length : Int) then
  bif leC 0 i && ltC i (↑a.length : Int) then
  Option.bind (C_laws_toBag () (a.getD i.toNat [], ())) fun c1 =>
  bif leC 0 i && ltC i (↑o2.length : Int) then
  L_laws_toBagS_3 a (IntKind.i64.wrap (i + 1)) (o2.set i.toNat c1.snd.fst)
  else
  none
  else
  none
  else
  some ((), o2, ()) :=
  (rsF_eq X_laws_toBagS TT 3 21 ps_laws_toBagS rs_laws_toBagS 3 _).trans (by kernel_rfl)
theorem s_laws_toBagS : RowOk Tryz.prog GT 140 5 21 (.sig ⟨ps_laws_toBagS, rs_laws_toBagS, C_laws_toBagS⟩) := ⟨evF_sound (X := X_laws_toBagS) (tabOk bld0 ⟨s_laws_toBag, trivial⟩) TT 3 21 ps_laws_toBagS rs_laws_toBagS rfl, enters_fn (by kernel_rfl)⟩
@[reducible] def ps_laws_toCluster : List Par := [⟨.val, true, T_laws_Cluster⟩]
@[reducible] def rs_laws_toCluster : List (Bool × Ty) := [(true, T_impl_Cluster)]
noncomputable def X_laws_toCluster : Ctx := ⟨Tryz.prog, GT, lkS [(17, .sig ⟨ps_laws_toQuery, rs_laws_toQuery, C_laws_toQuery⟩), (18, .sig ⟨ps_laws_toNodeS, rs_laws_toNodeS, C_laws_toNodeS⟩), (19, .sig ⟨ps_laws_toStringS, rs_laws_toStringS, C_laws_toStringS⟩), (20, .sig ⟨ps_laws_toIntS, rs_laws_toIntS, C_laws_toIntS⟩), (21, .sig ⟨ps_laws_toBagS, rs_laws_toBagS, C_laws_toBagS⟩)], 140, 5⟩
noncomputable def C_laws_toCluster : TakD ps_laws_toCluster → ValD ps_laws_toCluster → Option (MutD ps_laws_toCluster × ResD rs_laws_toCluster) := evF X_laws_toCluster TT 3 6 ps_laws_toCluster rs_laws_toCluster
theorem e_laws_toCluster (a : T_laws_Cluster.den) : C_laws_toCluster () (a, ()) =
  Option.bind (C_laws_toQuery () (a.fst, ())) fun c1 =>
  Option.bind (C_laws_toNodeS () (a.snd.fst, ())) fun c2 =>
  Option.bind (C_laws_toStringS () (a.snd.snd.fst, ())) fun c3 =>
  Option.bind (C_laws_toIntS () (a.snd.snd.snd.fst, ())) fun c4 =>
  Option.bind (C_laws_toBagS () (a.snd.snd.snd.snd, ())) fun c5 =>
  some ((), (c1.snd.fst, c2.snd.fst, c3.snd.fst, c4.snd.fst, c5.snd.fst), ()) := by
  kernel_rfl
theorem s_laws_toCluster : RowOk Tryz.prog GT 140 5 6 (.sig ⟨ps_laws_toCluster, rs_laws_toCluster, C_laws_toCluster⟩) := ⟨evF_sound (X := X_laws_toCluster) (tabOk bld0 ⟨s_laws_toQuery, s_laws_toNodeS, s_laws_toStringS, s_laws_toIntS, s_laws_toBagS, trivial⟩) TT 3 6 ps_laws_toCluster rs_laws_toCluster rfl, enters_fn (by kernel_rfl)⟩
@[reducible] def ps_impl_Decimal : List Par := [⟨.val, false, (.int .i64)⟩]
@[reducible] def rs_impl_Decimal : List (Bool × Ty) := [(false, .str)]
noncomputable def X_impl_Decimal : Ctx := ⟨Tryz.prog, GT, lkS [(63, .sig ⟨ps_strconv_Itoa, rs_strconv_Itoa, C_strconv_Itoa⟩)], 140, 5⟩
noncomputable def C_impl_Decimal : TakD ps_impl_Decimal → ValD ps_impl_Decimal → Option (MutD ps_impl_Decimal × ResD rs_impl_Decimal) := evF X_impl_Decimal TT 3 39 ps_impl_Decimal rs_impl_Decimal
theorem e_impl_Decimal (n : Int) : C_impl_Decimal () (n, ()) =
  Option.bind (C_strconv_Itoa () (n, ())) fun c1 =>
  some ((), c1.snd.fst, ()) := by
  kernel_rfl
theorem s_impl_Decimal : RowOk Tryz.prog GT 140 5 39 (.sig ⟨ps_impl_Decimal, rs_impl_Decimal, C_impl_Decimal⟩) := ⟨evF_sound (X := X_impl_Decimal) (tabOk bld0 ⟨s_strconv_Itoa, trivial⟩) TT 3 39 ps_impl_Decimal rs_impl_Decimal rfl, enters_fn (by kernel_rfl)⟩
@[reducible] def ps_impl_rowOk : List Par := [⟨.val, false, (.sl 3 (.int .i64))⟩]
@[reducible] def rs_impl_rowOk : List (Bool × Ty) := [(false, .bool)]
noncomputable def X_impl_rowOk : Ctx := ⟨Tryz.prog, GT, lkS [], 140, 5⟩
noncomputable def C_impl_rowOk : TakD ps_impl_rowOk → ValD ps_impl_rowOk → Option (MutD ps_impl_rowOk × ResD rs_impl_rowOk) := evF X_impl_rowOk TT 3 89 ps_impl_rowOk rs_impl_rowOk
noncomputable def L_impl_rowOk_4 (v8 : List (Int)) (v9 : Int) (v10 : Int) : Option (MutD ps_impl_rowOk × ResD rs_impl_rowOk) := rsF X_impl_rowOk TT 3 89 ps_impl_rowOk rs_impl_rowOk 4 ⟨[(8, (.c (.bor (.int .i64) v8))), (9, (.c (.int .i64 v9))), (10, (.c (.int .i64 v10)))], [], [], []⟩
theorem e_impl_rowOk (row : List (Int)) : C_impl_rowOk () (row, ()) =
  bif ltC 4 (↑(List.length row) : Int) then
  some ((), false, ())
  else
  L_impl_rowOk_4 row ((↑(List.length row) : Int)) 0 := by
  kernel_rfl
theorem l_impl_rowOk_4 (v8 : List (Int)) (v9 : Int) (v10 : Int) : L_impl_rowOk_4 v8 v9 v10 =
  bif ltC v10 v9 then
  bif leC 0 v10 && ltC v10 (↑v8.length : Int) then
  bif ltC (v8.getD v10.toNat 0) 0 then
  some ((), false, ())
  else
  bif ltC 99 (v8.getD v10.toNat 0) then
  some ((), false, ())
  else
  L_impl_rowOk_4 v8 v9 (IntKind.i64.wrap (v10 + 1))
  else
  none
  else
  some ((), true, ()) :=
  (rsF_eq X_impl_rowOk TT 3 89 ps_impl_rowOk rs_impl_rowOk 4 _).trans (by kernel_rfl)
theorem s_impl_rowOk : RowOk Tryz.prog GT 140 5 89 (.sig ⟨ps_impl_rowOk, rs_impl_rowOk, C_impl_rowOk⟩) := ⟨evF_sound (X := X_impl_rowOk) (tabOk bld0 trivial) TT 3 89 ps_impl_rowOk rs_impl_rowOk rfl, enters_fn (by kernel_rfl)⟩
@[reducible] def ps_impl_timesOk : List Par := [⟨.val, false, (.int .i64)⟩]
@[reducible] def rs_impl_timesOk : List (Bool × Ty) := [(false, .bool)]
noncomputable def X_impl_timesOk : Ctx := ⟨Tryz.prog, GT, lkS [], 140, 5⟩
noncomputable def C_impl_timesOk : TakD ps_impl_timesOk → ValD ps_impl_timesOk → Option (MutD ps_impl_timesOk × ResD rs_impl_timesOk) := evF X_impl_timesOk TT 3 90 ps_impl_timesOk rs_impl_timesOk
theorem e_impl_timesOk (times : Int) : C_impl_timesOk () (times, ()) =
  bif leC 1 times then
  some ((), leC times 1000000, ())
  else
  some ((), false, ()) := by
  kernel_rfl
theorem s_impl_timesOk : RowOk Tryz.prog GT 140 5 90 (.sig ⟨ps_impl_timesOk, rs_impl_timesOk, C_impl_timesOk⟩) := ⟨evF_sound (X := X_impl_timesOk) (tabOk bld0 trivial) TT 3 90 ps_impl_timesOk rs_impl_timesOk rfl, enters_fn (by kernel_rfl)⟩
end Go.Proofs.YtglbaihiibdemaaGreatDoor.Fn
