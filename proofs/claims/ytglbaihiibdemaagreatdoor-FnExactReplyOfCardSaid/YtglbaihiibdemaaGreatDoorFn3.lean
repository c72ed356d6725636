/- What is proved here: what functions of the program compute, as plain Lean terms; each by evaluation; and their contracts. -/
import Derived.Test.YtglbaihiibdemaaGreatDoorFn2
namespace Go.Proofs.YtglbaihiibdemaaGreatDoor.Fn
open Go Go.Proofs Go.Proofs.YtglbaihiibdemaaGreatDoor.Am
set_option autoImplicit false
set_option maxRecDepth 100000
@[reducible] def ps_cmp_isNaN_int : List Par := [⟨.val, false, (.int .i64)⟩]
@[reducible] def rs_cmp_isNaN_int : List (Bool × Ty) := [(false, .bool)]
noncomputable def X_cmp_isNaN_int : Ctx := ⟨Tryz.prog, GT, lkS [], 140, 5⟩
noncomputable def C_cmp_isNaN_int : TakD ps_cmp_isNaN_int → ValD ps_cmp_isNaN_int → Option (MutD ps_cmp_isNaN_int × ResD rs_cmp_isNaN_int) := evF X_cmp_isNaN_int TT 3 127 ps_cmp_isNaN_int rs_cmp_isNaN_int
theorem e_cmp_isNaN_int (x : Int) : C_cmp_isNaN_int () (x, ()) =
  some ((), x != x, ()) := by
  kernel_rfl
theorem s_cmp_isNaN_int : RowOk Tryz.prog GT 140 5 127 (.sig ⟨ps_cmp_isNaN_int, rs_cmp_isNaN_int, C_cmp_isNaN_int⟩) := ⟨evF_sound (X := X_cmp_isNaN_int) (tabOk bld0 trivial) TT 3 127 ps_cmp_isNaN_int rs_cmp_isNaN_int rfl, enters_fn (by kernel_rfl)⟩
@[reducible] def ps_cmp_Compare_int : List Par := [⟨.val, false, (.int .i64)⟩, ⟨.val, false, (.int .i64)⟩]
@[reducible] def rs_cmp_Compare_int : List (Bool × Ty) := [(false, (.int .i64))]
noncomputable def X_cmp_Compare_int : Ctx := ⟨Tryz.prog, GT, lkS [(127, .sig ⟨ps_cmp_isNaN_int, rs_cmp_isNaN_int, C_cmp_isNaN_int⟩)], 140, 5⟩
noncomputable def C_cmp_Compare_int : TakD ps_cmp_Compare_int → ValD ps_cmp_Compare_int → Option (MutD ps_cmp_Compare_int × ResD rs_cmp_Compare_int) := evF X_cmp_Compare_int TT 3 120 ps_cmp_Compare_int rs_cmp_Compare_int
theorem e_cmp_Compare_int (x : Int) (y : Int) : C_cmp_Compare_int () (x, y, ()) =
  Option.bind (C_cmp_isNaN_int () (x, ())) fun c1 =>
  Option.bind (C_cmp_isNaN_int () (y, ())) fun c2 =>
  bif c1.snd.fst then
  bif c2.snd.fst then
  some ((), 0, ())
  else
  some ((), -1, ())
  else
  bif c2.snd.fst then
  some ((), 1, ())
  else
  bif ltC x y then
  some ((), -1, ())
  else
  bif ltC y x then
  some ((), 1, ())
  else
  some ((), 0, ()) := by
  kernel_rfl
theorem s_cmp_Compare_int : RowOk Tryz.prog GT 140 5 120 (.sig ⟨ps_cmp_Compare_int, rs_cmp_Compare_int, C_cmp_Compare_int⟩) := ⟨evF_sound (X := X_cmp_Compare_int) (tabOk bld0 ⟨s_cmp_isNaN_int, trivial⟩) TT 3 120 ps_cmp_Compare_int rs_cmp_Compare_int rfl, enters_fn (by kernel_rfl)⟩
@[reducible] def ps_slices_Compare_int_int : List Par := [⟨.val, false, (.sl 3 (.int .i64))⟩, ⟨.val, false, (.sl 3 (.int .i64))⟩]
@[reducible] def rs_slices_Compare_int_int : List (Bool × Ty) := [(false, (.int .i64))]
noncomputable def X_slices_Compare_int_int : Ctx := ⟨Tryz.prog, GT, lkS [(120, .sig ⟨ps_cmp_Compare_int, rs_cmp_Compare_int, C_cmp_Compare_int⟩)], 140, 5⟩
noncomputable def C_slices_Compare_int_int : TakD ps_slices_Compare_int_int → ValD ps_slices_Compare_int_int → Option (MutD ps_slices_Compare_int_int × ResD rs_slices_Compare_int_int) := evF X_slices_Compare_int_int TT 3 108 ps_slices_Compare_int_int rs_slices_Compare_int_int
noncomputable def L_slices_Compare_int_int_2 (s1 : List (Int)) (s2 : List (Int)) (v9 : List (Int)) (v10 : Int) (v11 : Int) : Option (MutD ps_slices_Compare_int_int × ResD rs_slices_Compare_int_int) := rsF X_slices_Compare_int_int TT 3 108 ps_slices_Compare_int_int rs_slices_Compare_int_int 2 ⟨[(0, (.c (.bor (.int .i64) s1))), (1, (.c (.bor (.int .i64) s2))), (9, (.c (.bor (.int .i64) v9))), (10, (.c (.int .i64 v10))), (11, (.c (.int .i64 v11)))], [], [], []⟩
theorem e_slices_Compare_int_int (s1 : List (Int)) (s2 : List (Int)) : C_slices_Compare_int_int () (s1, s2, ()) =
  L_slices_Compare_int_int_2 s1 s2 s1 ((↑(List.length s1) : Int)) 0 := by
  kernel_rfl
theorem l_slices_Compare_int_int_2 (s1 : List (Int)) (s2 : List (Int)) (v9 : List (Int)) (v10 : Int) (v11 : Int) : L_slices_Compare_int_int_2 s1 s2 v9 v10 v11 =
  bif ltC v11 v10 then
  bif leC 0 v11 && ltC v11 (↑v9.length : Int) then
  bif leC (↑s2.length : Int) v11 then
  some ((), 1, ())
  else
  bif leC 0 v11 && ltC v11 (↑s2.length : Int) then
  Option.bind (C_cmp_Compare_int () (v9.getD v11.toNat 0, s2.getD v11.toNat 0, ())) fun c1 =>
  bif c1.snd.fst != 0 then
  some ((), c1.snd.fst, ())
  else
  L_slices_Compare_int_int_2 s1 s2 v9 v10 (IntKind.i64.wrap (v11 + 1))
  else
  none
  else
  none
  else
  bif ltC (↑s1.length : Int) (↑s2.length : Int) then
  some ((), -1, ())
  else
  some ((), 0, ()) :=
  (rsF_eq X_slices_Compare_int_int TT 3 108 ps_slices_Compare_int_int rs_slices_Compare_int_int 2 _).trans (by kernel_rfl)
theorem s_slices_Compare_int_int : RowOk Tryz.prog GT 140 5 108 (.sig ⟨ps_slices_Compare_int_int, rs_slices_Compare_int_int, C_slices_Compare_int_int⟩) := ⟨evF_sound (X := X_slices_Compare_int_int) (tabOk bld0 ⟨s_cmp_Compare_int, trivial⟩) TT 3 108 ps_slices_Compare_int_int rs_slices_Compare_int_int rfl, enters_fn (by kernel_rfl)⟩
@[reducible] def ps_impl_RowLess : List Par := [⟨.val, false, (.sl 3 (.int .i64))⟩, ⟨.val, false, (.sl 3 (.int .i64))⟩]
@[reducible] def rs_impl_RowLess : List (Bool × Ty) := [(false, .bool)]
noncomputable def X_impl_RowLess : Ctx := ⟨Tryz.prog, GT, lkS [(108, .sig ⟨ps_slices_Compare_int_int, rs_slices_Compare_int_int, C_slices_Compare_int_int⟩)], 140, 5⟩
noncomputable def C_impl_RowLess : TakD ps_impl_RowLess → ValD ps_impl_RowLess → Option (MutD ps_impl_RowLess × ResD rs_impl_RowLess) := evF X_impl_RowLess TT 3 91 ps_impl_RowLess rs_impl_RowLess
theorem e_impl_RowLess (a : List (Int)) (b : List (Int)) : C_impl_RowLess () (a, b, ()) =
  Option.bind (C_slices_Compare_int_int () (a, b, ())) fun c1 =>
  some ((), ltC c1.snd.fst 0, ()) := by
  kernel_rfl
theorem s_impl_RowLess : RowOk Tryz.prog GT 140 5 91 (.sig ⟨ps_impl_RowLess, rs_impl_RowLess, C_impl_RowLess⟩) := ⟨evF_sound (X := X_impl_RowLess) (tabOk bld0 ⟨s_slices_Compare_int_int, trivial⟩) TT 3 91 ps_impl_RowLess rs_impl_RowLess rfl, enters_fn (by kernel_rfl)⟩
@[reducible] def ps_impl_BagOk : List Par := [⟨.val, true, (.sl 92 T_impl_Item)⟩]
@[reducible] def rs_impl_BagOk : List (Bool × Ty) := [(false, .bool)]
noncomputable def X_impl_BagOk : Ctx := ⟨Tryz.prog, GT, lkS [(89, .sig ⟨ps_impl_rowOk, rs_impl_rowOk, C_impl_rowOk⟩), (90, .sig ⟨ps_impl_timesOk, rs_impl_timesOk, C_impl_timesOk⟩), (91, .sig ⟨ps_impl_RowLess, rs_impl_RowLess, C_impl_RowLess⟩)], 140, 5⟩
noncomputable def C_impl_BagOk : TakD ps_impl_BagOk → ValD ps_impl_BagOk → Option (MutD ps_impl_BagOk × ResD rs_impl_BagOk) := evF X_impl_BagOk TT 3 64 ps_impl_BagOk rs_impl_BagOk
noncomputable def L_impl_BagOk_4 (v10 : List (T_impl_Item.den)) (v11 : Int) (v12 : Int) (o3 : List (T_impl_Item.den)) : Option (MutD ps_impl_BagOk × ResD rs_impl_BagOk) := rsF X_impl_BagOk TT 3 64 ps_impl_BagOk rs_impl_BagOk 4 ⟨[(1, (.c (.ptr 0 0 0))), (10, (.c (.bor T_impl_Item v10))), (11, (.c (.int .i64 v11))), (12, (.c (.int .i64 v12)))], [], [], [(.box 52 [(.bor T_impl_Item o3)])]⟩
theorem e_impl_BagOk (b : List (T_impl_Item.den)) : C_impl_BagOk () (b, ()) =
  bif ltC 300 (↑(List.length b) : Int) then
  some ((), false, ())
  else
  L_impl_BagOk_4 b ((↑(List.length b) : Int)) 0 b := by
  kernel_rfl
theorem l_impl_BagOk_4 (v10 : List (T_impl_Item.den)) (v11 : Int) (v12 : Int) (o3 : List (T_impl_Item.den)) : L_impl_BagOk_4 v10 v11 v12 o3 =
  bif ltC v12 v11 then
  bif leC 0 v12 && ltC v12 (↑v10.length : Int) then
  Option.bind (C_impl_rowOk () ((v10.getD v12.toNat T_impl_Item.dflt).fst, ())) fun c1 =>
  bif !c1.snd.fst then
  some ((), false, ())
  else
  Option.bind (C_impl_timesOk () ((v10.getD v12.toNat T_impl_Item.dflt).snd, ())) fun c2 =>
  bif !c2.snd.fst then
  some ((), false, ())
  else
  bif leC 0 0 && ltC 0 (↑o3.length : Int) then
  bif (↑(List.length (v10.getD v12.toNat T_impl_Item.dflt).fst) : Int) !=   (↑(List.length (o3.getD (Int.toNat 0) T_impl_Item.dflt).fst) : Int) then
  some ((), false, ())
  else
  bif ltC 0 v12 then
  bif leC 0 (IntKind.i64.wrap (v12 - 1)) && ltC (IntKind.i64.wrap (v12 - 1)) (↑o3.length : Int) then
  Option.bind (C_impl_RowLess () ((o3.getD (IntKind.i64.wrap (v12 - 1)).toNat T_impl_Item.dflt).fst, (v10.getD v12.toNat T_impl_Item.dflt).fst, ())) fun c3 =>
  bif !c3.snd.fst then
  some ((), false, ())
  else
  L_impl_BagOk_4 v10 v11 (IntKind.i64.wrap (v12 + 1)) o3
  else
  none
  else
  L_impl_BagOk_4 v10 v11 (IntKind.i64.wrap (v12 + 1)) o3
  else
  none
  else
  none
  else
  some ((), true, ()) :=
  (rsF_eq X_impl_BagOk TT 3 64 ps_impl_BagOk rs_impl_BagOk 4 _).trans (by kernel_rfl)
theorem s_impl_BagOk : RowOk Tryz.prog GT 140 5 64 (.sig ⟨ps_impl_BagOk, rs_impl_BagOk, C_impl_BagOk⟩) := ⟨evF_sound (X := X_impl_BagOk) (tabOk bld0 ⟨s_impl_rowOk, s_impl_timesOk, s_impl_RowLess, trivial⟩) TT 3 64 ps_impl_BagOk rs_impl_BagOk rfl, enters_fn (by kernel_rfl)⟩
@[reducible] def ps_impl_BagSize : List Par := [⟨.val, true, (.sl 92 T_impl_Item)⟩]
@[reducible] def rs_impl_BagSize : List (Bool × Ty) := [(false, (.int .i64))]
noncomputable def X_impl_BagSize : Ctx := ⟨Tryz.prog, GT, lkS [(64, .sig ⟨ps_impl_BagOk, rs_impl_BagOk, C_impl_BagOk⟩)], 140, 5⟩
noncomputable def C_impl_BagSize : TakD ps_impl_BagSize → ValD ps_impl_BagSize → Option (MutD ps_impl_BagSize × ResD rs_impl_BagSize) := evF X_impl_BagSize TT 3 40 ps_impl_BagSize rs_impl_BagSize
noncomputable def L_impl_BagSize_5 (sum : Int) (v10 : List (T_impl_Item.den)) (v11 : Int) (v12 : Int) : Option (MutD ps_impl_BagSize × ResD rs_impl_BagSize) := rsF X_impl_BagSize TT 3 40 ps_impl_BagSize rs_impl_BagSize 5 ⟨[(3, (.c (.int .i64 sum))), (10, (.c (.bor T_impl_Item v10))), (11, (.c (.int .i64 v11))), (12, (.c (.int .i64 v12)))], [], [], []⟩
theorem e_impl_BagSize (b : List (T_impl_Item.den)) : C_impl_BagSize () (b, ()) =
  Option.bind (C_impl_BagOk () (b, ())) fun c1 =>
  bif !c1.snd.fst then
  some ((), 0, ())
  else
  L_impl_BagSize_5 0 b ((↑(List.length b) : Int)) 0 := by
  kernel_rfl
theorem l_impl_BagSize_5 (sum : Int) (v10 : List (T_impl_Item.den)) (v11 : Int) (v12 : Int) : L_impl_BagSize_5 sum v10 v11 v12 =
  bif ltC v12 v11 then
  bif leC 0 v12 && ltC v12 (↑v10.length : Int) then
  L_impl_BagSize_5 (IntKind.i64.wrap (sum + (v10.getD v12.toNat T_impl_Item.dflt).snd)) v10 v11 (IntKind.i64.wrap (v12 + 1))
  else
  none
  else
  some ((), if 1000000 < sum then 1000000 else sum, ()) :=
  (rsF_eq X_impl_BagSize TT 3 40 ps_impl_BagSize rs_impl_BagSize 5 _).trans (by kernel_rfl)
theorem s_impl_BagSize : RowOk Tryz.prog GT 140 5 40 (.sig ⟨ps_impl_BagSize, rs_impl_BagSize, C_impl_BagSize⟩) := ⟨evF_sound (X := X_impl_BagSize) (tabOk bld0 ⟨s_impl_BagOk, trivial⟩) TT 3 40 ps_impl_BagSize rs_impl_BagSize rfl, enters_fn (by kernel_rfl)⟩
@[reducible] def ps_impl_ShowBag : List Par := [⟨.val, true, (.sl 92 T_impl_Item)⟩]
@[reducible] def rs_impl_ShowBag : List (Bool × Ty) := [(false, .str)]
noncomputable def X_impl_ShowBag : Ctx := ⟨Tryz.prog, GT, lkS [(39, .sig ⟨ps_impl_Decimal, rs_impl_Decimal, C_impl_Decimal⟩), (65, .bldWrite), (66, .bldString)], 140, 5⟩
noncomputable def C_impl_ShowBag : TakD ps_impl_ShowBag → ValD ps_impl_ShowBag → Option (MutD ps_impl_ShowBag × ResD rs_impl_ShowBag) := evF X_impl_ShowBag TT 3 41 ps_impl_ShowBag rs_impl_ShowBag
noncomputable def L_impl_ShowBag_3 (v9 : List (T_impl_Item.den)) (v10 : Int) (v11 : Int) (o3 : List UInt8) : Option (MutD ps_impl_ShowBag × ResD rs_impl_ShowBag) := rsF X_impl_ShowBag TT 3 41 ps_impl_ShowBag rs_impl_ShowBag 3 ⟨[(3, (.c (.ptr 0 0 0))), (9, (.c (.bor T_impl_Item v9))), (10, (.c (.int .i64 v10))), (11, (.c (.int .i64 v11)))], [], [], [(.bld o3)]⟩
noncomputable def L_impl_ShowBag_6 (v9 : List (T_impl_Item.den)) (v10 : Int) (v11 : Int) (v16 : List (Int)) (v17 : Int) (v18 : Int) (o6 : List UInt8) (o7 : List (Int)) (o8 : Int) : Option (MutD ps_impl_ShowBag × ResD rs_impl_ShowBag) := rsF X_impl_ShowBag TT 3 41 ps_impl_ShowBag rs_impl_ShowBag 6 ⟨[(3, (.c (.ptr 0 0 0))), (5, (.c (.ptr 1 0 0))), (9, (.c (.bor T_impl_Item v9))), (10, (.c (.int .i64 v10))), (11, (.c (.int .i64 v11))), (16, (.c (.bor (.int .i64) v16))), (17, (.c (.int .i64 v17))), (18, (.c (.int .i64 v18)))], [], [], [(.bld o6), (.box 92 [(.bor (.int .i64) o7), (.int .i64 o8)])]⟩
theorem e_impl_ShowBag (b : List (T_impl_Item.den)) : C_impl_ShowBag () (b, ()) =
  L_impl_ShowBag_3 b ((↑(List.length b) : Int)) 0 [] := by
  kernel_rfl
theorem l_impl_ShowBag_3 (v9 : List (T_impl_Item.den)) (v10 : Int) (v11 : Int) (o3 : List UInt8) : L_impl_ShowBag_3 v9 v10 v11 o3 =
  bif ltC v11 v10 then
  bif leC 0 v11 && ltC v11 (↑v9.length : Int) then
  L_impl_ShowBag_6 v9 v10 v11 ((v9.getD v11.toNat T_impl_Item.dflt).fst) ((↑(List.length (v9.getD v11.toNat T_impl_Item.dflt).fst) : Int)) 0 o3 ((v9.getD v11.toNat T_impl_Item.dflt).fst) ((v9.getD v11.toNat T_impl_Item.dflt).snd)
  else
  none
  else
  some ((), o3, ()) :=
  (rsF_eq X_impl_ShowBag TT 3 41 ps_impl_ShowBag rs_impl_ShowBag 3 _).trans (by kernel_rfl)
theorem l_impl_ShowBag_6 (v9 : List (T_impl_Item.den)) (v10 : Int) (v11 : Int) (v16 : List (Int)) (v17 : Int) (v18 : Int) (o6 : List UInt8) (o7 : List (Int)) (o8 : Int) : L_impl_ShowBag_6 v9 v10 v11 v16 v17 v18 o6 o7 o8 =
  bif ltC v18 v17 then
  bif leC 0 v18 && ltC v18 (↑v16.length : Int) then
  Option.bind (C_impl_Decimal () (if 0 > v16.getD v18.toNat (Ty.int IntKind.i64).dflt then 0 else v16.getD v18.toNat 0, ())) fun c1 =>
  bif leC (↑(List.length c1.snd.fst + [32].length) : Int) 9223372036854775807 then
  bif leN (o6.length + (c1.snd.fst ++ [32]).length) 140737488355328 then
  L_impl_ShowBag_6 v9 v10 v11 v16 v17 (IntKind.i64.wrap (v18 + 1)) (o6 ++ (c1.snd.fst ++ [32])) o7 o8
  else
  none
  else
  none
  else
  none
  else
  Option.bind (C_impl_Decimal () (if 0 > o8 then 0 else o8, ())) fun c2 =>
  bif leC (↑([42].length + List.length c2.snd.fst) : Int) 9223372036854775807 then
  bif leC (↑(([42] ++ c2.snd.fst).length + [10].length) : Int) 9223372036854775807 then
  bif leN (o6.length + ([42] ++ c2.snd.fst ++ [10]).length) 140737488355328 then
  L_impl_ShowBag_3 v9 v10 (IntKind.i64.wrap (v11 + 1)) (o6 ++ ([42] ++ c2.snd.fst ++ [10]))
  else
  none
  else
  none
  else
  none :=
  (rsF_eq X_impl_ShowBag TT 3 41 ps_impl_ShowBag rs_impl_ShowBag 6 _).trans (by kernel_rfl)
theorem s_impl_ShowBag : RowOk Tryz.prog GT 140 5 41 (.sig ⟨ps_impl_ShowBag, rs_impl_ShowBag, C_impl_ShowBag⟩) := ⟨evF_sound (X := X_impl_ShowBag) (tabOk bld0 ⟨s_impl_Decimal, i_65, i_66, trivial⟩) TT 3 41 ps_impl_ShowBag rs_impl_ShowBag rfl, enters_fn (by kernel_rfl)⟩
@[reducible] def ps_impl_rowsText : List Par := [⟨.val, true, (.sl 92 T_impl_Item)⟩]
@[reducible] def rs_impl_rowsText : List (Bool × Ty) := [(false, .str)]
noncomputable def X_impl_rowsText : Ctx := ⟨Tryz.prog, GT, lkS [(39, .sig ⟨ps_impl_Decimal, rs_impl_Decimal, C_impl_Decimal⟩), (40, .sig ⟨ps_impl_BagSize, rs_impl_BagSize, C_impl_BagSize⟩), (41, .sig ⟨ps_impl_ShowBag, rs_impl_ShowBag, C_impl_ShowBag⟩)], 140, 5⟩
noncomputable def C_impl_rowsText : TakD ps_impl_rowsText → ValD ps_impl_rowsText → Option (MutD ps_impl_rowsText × ResD rs_impl_rowsText) := evF X_impl_rowsText TT 3 22 ps_impl_rowsText rs_impl_rowsText
theorem e_impl_rowsText (b : List (T_impl_Item.den)) : C_impl_rowsText () (b, ()) =
  Option.bind (C_impl_BagSize () (b, ())) fun c1 =>
  Option.bind (C_impl_Decimal () (c1.snd.fst, ())) fun c2 =>
  bif leC (↑([114, 111, 119, 115, 32].length + List.length c2.snd.fst) : Int) 9223372036854775807 then
  bif leC (↑(([114, 111, 119, 115, 32] ++ c2.snd.fst).length + [10].length) : Int) 9223372036854775807 then
  Option.bind (C_impl_ShowBag () (b, ())) fun c3 =>
  bif leC (↑(([114, 111, 119, 115, 32] ++ c2.snd.fst ++ [10]).length + List.length c3.snd.fst) : Int)   9223372036854775807 then
  some ((), [114, 111, 119, 115, 32] ++ c2.snd.fst ++ [10] ++ c3.snd.fst, ())
  else
  none
  else
  none
  else
  none := by
  kernel_rfl
theorem s_impl_rowsText : RowOk Tryz.prog GT 140 5 22 (.sig ⟨ps_impl_rowsText, rs_impl_rowsText, C_impl_rowsText⟩) := ⟨evF_sound (X := X_impl_rowsText) (tabOk bld0 ⟨s_impl_Decimal, s_impl_BagSize, s_impl_ShowBag, trivial⟩) TT 3 22 ps_impl_rowsText rs_impl_rowsText rfl, enters_fn (by kernel_rfl)⟩
@[reducible] def ps_impl_ReplyOf : List Par := [⟨.val, true, T_impl_Cluster⟩]
@[reducible] def rs_impl_ReplyOf : List (Bool × Ty) := [(false, .str)]
noncomputable def X_impl_ReplyOf : Ctx := ⟨Tryz.prog, GT, lkS [(22, .sig ⟨ps_impl_rowsText, rs_impl_rowsText, C_impl_rowsText⟩)], 140, 5⟩
noncomputable def C_impl_ReplyOf : TakD ps_impl_ReplyOf → ValD ps_impl_ReplyOf → Option (MutD ps_impl_ReplyOf × ResD rs_impl_ReplyOf) := evF X_impl_ReplyOf TT 3 7 ps_impl_ReplyOf rs_impl_ReplyOf
theorem e_impl_ReplyOf (c : T_impl_Cluster.den) : C_impl_ReplyOf () (c, ()) =
  bif (↑(List.length c.snd.snd.snd.snd) : Int) == 0 then
  some ((), [111, 112, 101, 110, 10], ())
  else
  bif leC 0 (IntKind.i64.wrap ((↑(List.length c.snd.snd.snd.snd) : Int) - 1)) &&   ltC (IntKind.i64.wrap ((↑(List.length c.snd.snd.snd.snd) : Int) - 1)) (↑(List.length c.snd.snd.snd.snd) : Int) then
  Option.bind (C_impl_rowsText () (List.getD c.snd.snd.snd.snd (IntKind.i64.wrap ((↑(List.length c.snd.snd.snd.snd) : Int) - 1)).toNat [], ())) fun c1 =>
  some ((), c1.snd.fst, ())
  else
  none := by
  kernel_rfl
theorem s_impl_ReplyOf : RowOk Tryz.prog GT 140 5 7 (.sig ⟨ps_impl_ReplyOf, rs_impl_ReplyOf, C_impl_ReplyOf⟩) := ⟨evF_sound (X := X_impl_ReplyOf) (tabOk bld0 ⟨s_impl_rowsText, trivial⟩) TT 3 7 ps_impl_ReplyOf rs_impl_ReplyOf rfl, enters_fn (by kernel_rfl)⟩
@[reducible] def ps_laws_eqStringS : List Par := [⟨.val, false, (.sl 9 .str)⟩, ⟨.val, false, (.sl 9 .str)⟩]
@[reducible] def rs_laws_eqStringS : List (Bool × Ty) := [(false, .bool)]
noncomputable def X_laws_eqStringS : Ctx := ⟨Tryz.prog, GT, lkS [], 140, 5⟩
noncomputable def C_laws_eqStringS : TakD ps_laws_eqStringS → ValD ps_laws_eqStringS → Option (MutD ps_laws_eqStringS × ResD rs_laws_eqStringS) := evF X_laws_eqStringS TT 3 25 ps_laws_eqStringS rs_laws_eqStringS
noncomputable def L_laws_eqStringS_4 (a : List (List UInt8)) (b : List (List UInt8)) (i : Int) : Option (MutD ps_laws_eqStringS × ResD rs_laws_eqStringS) := rsF X_laws_eqStringS TT 3 25 ps_laws_eqStringS rs_laws_eqStringS 4 ⟨[(0, (.c (.bor .str a))), (1, (.c (.bor .str b))), (5, (.c (.int .i64 i)))], [], [], []⟩
theorem e_laws_eqStringS (a : List (List UInt8)) (b : List (List UInt8)) : C_laws_eqStringS () (a, b, ()) =
  bif (↑(List.length a) : Int) != (↑(List.length b) : Int) then
  some ((), false, ())
  else
  L_laws_eqStringS_4 a b 0 := by
  kernel_rfl
theorem l_laws_eqStringS_4 (a : List (List UInt8)) (b : List (List UInt8)) (i : Int) : L_laws_eqStringS_4 a b i =
  bif ltC i (↑a.length : Int) then
  bif leC 0 i && ltC i (↑a.length : Int) then
  bif leC 0 i && ltC i (↑b.length : Int) then
  bif !a.getD i.toNat [] == b.getD i.toNat [] then
  some ((), false, ())
  else
  L_laws_eqStringS_4 a b (IntKind.i64.wrap (i + 1))
  else
  none
  else
  none
  else
  some ((), true, ()) :=
  (rsF_eq X_laws_eqStringS TT 3 25 ps_laws_eqStringS rs_laws_eqStringS 4 _).trans (by kernel_rfl)
theorem s_laws_eqStringS : RowOk Tryz.prog GT 140 5 25 (.sig ⟨ps_laws_eqStringS, rs_laws_eqStringS, C_laws_eqStringS⟩) := ⟨evF_sound (X := X_laws_eqStringS) (tabOk bld0 trivial) TT 3 25 ps_laws_eqStringS rs_laws_eqStringS rfl, enters_fn (by kernel_rfl)⟩
@[reducible] def ps_laws_eqAtom : List Par := [⟨.val, true, T_impl_Atom⟩, ⟨.val, true, T_impl_Atom⟩]
@[reducible] def rs_laws_eqAtom : List (Bool × Ty) := [(false, .bool)]
noncomputable def X_laws_eqAtom : Ctx := ⟨Tryz.prog, GT, lkS [], 140, 5⟩
noncomputable def C_laws_eqAtom : TakD ps_laws_eqAtom → ValD ps_laws_eqAtom → Option (MutD ps_laws_eqAtom × ResD rs_laws_eqAtom) := evF X_laws_eqAtom TT 3 67 ps_laws_eqAtom rs_laws_eqAtom
theorem e_laws_eqAtom (a : T_impl_Atom.den) (b : T_impl_Atom.den) : C_laws_eqAtom () (a, b, ()) =
  bif !a.fst == b.fst then
  some ((), false, ())
  else
  bif !a.snd.fst == b.snd.fst then
  some ((), false, ())
  else
  bif !a.snd.snd == b.snd.snd then
  some ((), false, ())
  else
  some ((), true, ()) := by
  kernel_rfl
theorem s_laws_eqAtom : RowOk Tryz.prog GT 140 5 67 (.sig ⟨ps_laws_eqAtom, rs_laws_eqAtom, C_laws_eqAtom⟩) := ⟨evF_sound (X := X_laws_eqAtom) (tabOk bld0 trivial) TT 3 67 ps_laws_eqAtom rs_laws_eqAtom rfl, enters_fn (by kernel_rfl)⟩
@[reducible] def ps_laws_eqAtomS : List Par := [⟨.val, false, (.sl 129 T_impl_Atom)⟩, ⟨.val, false, (.sl 129 T_impl_Atom)⟩]
@[reducible] def rs_laws_eqAtomS : List (Bool × Ty) := [(false, .bool)]
noncomputable def X_laws_eqAtomS : Ctx := ⟨Tryz.prog, GT, lkS [(67, .sig ⟨ps_laws_eqAtom, rs_laws_eqAtom, C_laws_eqAtom⟩)], 140, 5⟩
noncomputable def C_laws_eqAtomS : TakD ps_laws_eqAtomS → ValD ps_laws_eqAtomS → Option (MutD ps_laws_eqAtomS × ResD rs_laws_eqAtomS) := evF X_laws_eqAtomS TT 3 42 ps_laws_eqAtomS rs_laws_eqAtomS
noncomputable def L_laws_eqAtomS_4 (a : List (T_impl_Atom.den)) (b : List (T_impl_Atom.den)) (i : Int) : Option (MutD ps_laws_eqAtomS × ResD rs_laws_eqAtomS) := rsF X_laws_eqAtomS TT 3 42 ps_laws_eqAtomS rs_laws_eqAtomS 4 ⟨[(0, (.c (.bor T_impl_Atom a))), (1, (.c (.bor T_impl_Atom b))), (5, (.c (.int .i64 i)))], [], [], []⟩
theorem e_laws_eqAtomS (a : List (T_impl_Atom.den)) (b : List (T_impl_Atom.den)) : C_laws_eqAtomS () (a, b, ()) =
  bif (↑(List.length a) : Int) != (↑(List.length b) : Int) then
  some ((), false, ())
  else
  L_laws_eqAtomS_4 a b 0 := by
  kernel_rfl
theorem l_laws_eqAtomS_4 (a : List (T_impl_Atom.den)) (b : List (T_impl_Atom.den)) (i : Int) : L_laws_eqAtomS_4 a b i =
  bif ltC i (↑a.length : Int) then
  bif leC 0 i && ltC i (↑a.length : Int) then
  bif leC 0 i && ltC i (↑b.length : Int) then
  Option.bind (C_laws_eqAtom () (a.getD i.toNat T_impl_Atom.dflt, b.getD i.toNat T_impl_Atom.dflt, ())) fun c1 =>
  bif !c1.snd.fst then
  some ((), false, ())
  else
  L_laws_eqAtomS_4 a b (IntKind.i64.wrap (i + 1))
  else
  none
  else
  none
  else
  some ((), true, ()) :=
  (rsF_eq X_laws_eqAtomS TT 3 42 ps_laws_eqAtomS rs_laws_eqAtomS 4 _).trans (by kernel_rfl)
theorem s_laws_eqAtomS : RowOk Tryz.prog GT 140 5 42 (.sig ⟨ps_laws_eqAtomS, rs_laws_eqAtomS, C_laws_eqAtomS⟩) := ⟨evF_sound (X := X_laws_eqAtomS) (tabOk bld0 ⟨s_laws_eqAtom, trivial⟩) TT 3 42 ps_laws_eqAtomS rs_laws_eqAtomS rfl, enters_fn (by kernel_rfl)⟩
@[reducible] def ps_laws_eqFilter : List Par := [⟨.val, true, T_impl_Filter⟩, ⟨.val, true, T_impl_Filter⟩]
@[reducible] def rs_laws_eqFilter : List (Bool × Ty) := [(false, .bool)]
noncomputable def X_laws_eqFilter : Ctx := ⟨Tryz.prog, GT, lkS [], 140, 5⟩
noncomputable def C_laws_eqFilter : TakD ps_laws_eqFilter → ValD ps_laws_eqFilter → Option (MutD ps_laws_eqFilter × ResD rs_laws_eqFilter) := evF X_laws_eqFilter TT 3 68 ps_laws_eqFilter rs_laws_eqFilter
theorem e_laws_eqFilter (a : T_impl_Filter.den) (b : T_impl_Filter.den) : C_laws_eqFilter () (a, b, ()) =
  bif !a.fst == b.fst then
  some ((), false, ())
  else
  bif a.snd.fst != b.snd.fst then
  some ((), false, ())
  else
  bif !a.snd.snd.fst == b.snd.snd.fst then
  some ((), false, ())
  else
  bif a.snd.snd.snd != b.snd.snd.snd then
  some ((), false, ())
  else
  some ((), true, ()) := by
  kernel_rfl
theorem s_laws_eqFilter : RowOk Tryz.prog GT 140 5 68 (.sig ⟨ps_laws_eqFilter, rs_laws_eqFilter, C_laws_eqFilter⟩) := ⟨evF_sound (X := X_laws_eqFilter) (tabOk bld0 trivial) TT 3 68 ps_laws_eqFilter rs_laws_eqFilter rfl, enters_fn (by kernel_rfl)⟩
@[reducible] def ps_laws_eqFilterS : List Par := [⟨.val, false, (.sl 131 T_impl_Filter)⟩, ⟨.val, false, (.sl 131 T_impl_Filter)⟩]
@[reducible] def rs_laws_eqFilterS : List (Bool × Ty) := [(false, .bool)]
noncomputable def X_laws_eqFilterS : Ctx := ⟨Tryz.prog, GT, lkS [(68, .sig ⟨ps_laws_eqFilter, rs_laws_eqFilter, C_laws_eqFilter⟩)], 140, 5⟩
noncomputable def C_laws_eqFilterS : TakD ps_laws_eqFilterS → ValD ps_laws_eqFilterS → Option (MutD ps_laws_eqFilterS × ResD rs_laws_eqFilterS) := evF X_laws_eqFilterS TT 3 43 ps_laws_eqFilterS rs_laws_eqFilterS
noncomputable def L_laws_eqFilterS_4 (a : List (T_impl_Filter.den)) (b : List (T_impl_Filter.den)) (i : Int) : Option (MutD ps_laws_eqFilterS × ResD rs_laws_eqFilterS) := rsF X_laws_eqFilterS TT 3 43 ps_laws_eqFilterS rs_laws_eqFilterS 4 ⟨[(0, (.c (.bor T_impl_Filter a))), (1, (.c (.bor T_impl_Filter b))), (5, (.c (.int .i64 i)))], [], [], []⟩
theorem e_laws_eqFilterS (a : List (T_impl_Filter.den)) (b : List (T_impl_Filter.den)) : C_laws_eqFilterS () (a, b, ()) =
  bif (↑(List.length a) : Int) != (↑(List.length b) : Int) then
  some ((), false, ())
  else
  L_laws_eqFilterS_4 a b 0 := by
  kernel_rfl
theorem l_laws_eqFilterS_4 (a : List (T_impl_Filter.den)) (b : List (T_impl_Filter.den)) (i : Int) : L_laws_eqFilterS_4 a b i =
  bif ltC i (↑a.length : Int) then
  bif leC 0 i && ltC i (↑a.length : Int) then
  bif leC 0 i && ltC i (↑b.length : Int) then
  Option.bind (C_laws_eqFilter () (a.getD i.toNat T_impl_Filter.dflt, b.getD i.toNat T_impl_Filter.dflt, ())) fun c1 =>
  bif !c1.snd.fst then
  some ((), false, ())
  else
  L_laws_eqFilterS_4 a b (IntKind.i64.wrap (i + 1))
  else
  none
  else
  none
  else
  some ((), true, ()) :=
  (rsF_eq X_laws_eqFilterS TT 3 43 ps_laws_eqFilterS rs_laws_eqFilterS 4 _).trans (by kernel_rfl)
theorem s_laws_eqFilterS : RowOk Tryz.prog GT 140 5 43 (.sig ⟨ps_laws_eqFilterS, rs_laws_eqFilterS, C_laws_eqFilterS⟩) := ⟨evF_sound (X := X_laws_eqFilterS) (tabOk bld0 ⟨s_laws_eqFilter, trivial⟩) TT 3 43 ps_laws_eqFilterS rs_laws_eqFilterS rfl, enters_fn (by kernel_rfl)⟩
@[reducible] def ps_laws_eqQuery : List Par := [⟨.val, true, T_impl_Query⟩, ⟨.val, true, T_impl_Query⟩]
@[reducible] def rs_laws_eqQuery : List (Bool × Ty) := [(false, .bool)]
noncomputable def X_laws_eqQuery : Ctx := ⟨Tryz.prog, GT, lkS [(25, .sig ⟨ps_laws_eqStringS, rs_laws_eqStringS, C_laws_eqStringS⟩), (42, .sig ⟨ps_laws_eqAtomS, rs_laws_eqAtomS, C_laws_eqAtomS⟩), (43, .sig ⟨ps_laws_eqFilterS, rs_laws_eqFilterS, C_laws_eqFilterS⟩)], 140, 5⟩
noncomputable def C_laws_eqQuery : TakD ps_laws_eqQuery → ValD ps_laws_eqQuery → Option (MutD ps_laws_eqQuery × ResD rs_laws_eqQuery) := evF X_laws_eqQuery TT 3 23 ps_laws_eqQuery rs_laws_eqQuery
theorem e_laws_eqQuery (a : T_impl_Query.den) (b : T_impl_Query.den) : C_laws_eqQuery () (a, b, ()) =
  bif !a.fst == b.fst then
  some ((), false, ())
  else
  Option.bind (C_laws_eqStringS () (a.snd.fst, b.snd.fst, ())) fun c1 =>
  bif !c1.snd.fst then
  some ((), false, ())
  else
  Option.bind (C_laws_eqAtomS () (a.snd.snd.fst, b.snd.snd.fst, ())) fun c2 =>
  bif !c2.snd.fst then
  some ((), false, ())
  else
  Option.bind (C_laws_eqFilterS () (a.snd.snd.snd, b.snd.snd.snd, ())) fun c3 =>
  bif !c3.snd.fst then
  some ((), false, ())
  else
  some ((), true, ()) := by
  kernel_rfl
theorem s_laws_eqQuery : RowOk Tryz.prog GT 140 5 23 (.sig ⟨ps_laws_eqQuery, rs_laws_eqQuery, C_laws_eqQuery⟩) := ⟨evF_sound (X := X_laws_eqQuery) (tabOk bld0 ⟨s_laws_eqStringS, s_laws_eqAtomS, s_laws_eqFilterS, trivial⟩) TT 3 23 ps_laws_eqQuery rs_laws_eqQuery rfl, enters_fn (by kernel_rfl)⟩
@[reducible] def ps_laws_eqFile : List Par := [⟨.val, true, T_impl_File⟩, ⟨.val, true, T_impl_File⟩]
@[reducible] def rs_laws_eqFile : List (Bool × Ty) := [(false, .bool)]
noncomputable def X_laws_eqFile : Ctx := ⟨Tryz.prog, GT, lkS [], 140, 5⟩
noncomputable def C_laws_eqFile : TakD ps_laws_eqFile → ValD ps_laws_eqFile → Option (MutD ps_laws_eqFile × ResD rs_laws_eqFile) := evF X_laws_eqFile TT 3 110 ps_laws_eqFile rs_laws_eqFile
theorem e_laws_eqFile (a : T_impl_File.den) (b : T_impl_File.den) : C_laws_eqFile () (a, b, ()) =
  bif !a.fst == b.fst then
  some ((), false, ())
  else
  bif !a.snd.fst == b.snd.fst then
  some ((), false, ())
  else
  bif a.snd.snd != b.snd.snd then
  some ((), false, ())
  else
  some ((), true, ()) := by
  kernel_rfl
theorem s_laws_eqFile : RowOk Tryz.prog GT 140 5 110 (.sig ⟨ps_laws_eqFile, rs_laws_eqFile, C_laws_eqFile⟩) := ⟨evF_sound (X := X_laws_eqFile) (tabOk bld0 trivial) TT 3 110 ps_laws_eqFile rs_laws_eqFile rfl, enters_fn (by kernel_rfl)⟩
@[reducible] def ps_laws_eqFileS : List Par := [⟨.val, false, (.sl 191 T_impl_File)⟩, ⟨.val, false, (.sl 191 T_impl_File)⟩]
@[reducible] def rs_laws_eqFileS : List (Bool × Ty) := [(false, .bool)]
noncomputable def X_laws_eqFileS : Ctx := ⟨Tryz.prog, GT, lkS [(110, .sig ⟨ps_laws_eqFile, rs_laws_eqFile, C_laws_eqFile⟩)], 140, 5⟩
noncomputable def C_laws_eqFileS : TakD ps_laws_eqFileS → ValD ps_laws_eqFileS → Option (MutD ps_laws_eqFileS × ResD rs_laws_eqFileS) := evF X_laws_eqFileS TT 3 93 ps_laws_eqFileS rs_laws_eqFileS
noncomputable def L_laws_eqFileS_4 (a : List (T_impl_File.den)) (b : List (T_impl_File.den)) (i : Int) : Option (MutD ps_laws_eqFileS × ResD rs_laws_eqFileS) := rsF X_laws_eqFileS TT 3 93 ps_laws_eqFileS rs_laws_eqFileS 4 ⟨[(0, (.c (.bor T_impl_File a))), (1, (.c (.bor T_impl_File b))), (5, (.c (.int .i64 i)))], [], [], []⟩
theorem e_laws_eqFileS (a : List (T_impl_File.den)) (b : List (T_impl_File.den)) : C_laws_eqFileS () (a, b, ()) =
  bif (↑(List.length a) : Int) != (↑(List.length b) : Int) then
  some ((), false, ())
  else
  L_laws_eqFileS_4 a b 0 := by
  kernel_rfl
theorem l_laws_eqFileS_4 (a : List (T_impl_File.den)) (b : List (T_impl_File.den)) (i : Int) : L_laws_eqFileS_4 a b i =
  bif ltC i (↑a.length : Int) then
  bif leC 0 i && ltC i (↑a.length : Int) then
  bif leC 0 i && ltC i (↑b.length : Int) then
  Option.bind (C_laws_eqFile () (a.getD i.toNat T_impl_File.dflt, b.getD i.toNat T_impl_File.dflt, ())) fun c1 =>
  bif !c1.snd.fst then
  some ((), false, ())
  else
  L_laws_eqFileS_4 a b (IntKind.i64.wrap (i + 1))
  else
  none
  else
  none
  else
  some ((), true, ()) :=
  (rsF_eq X_laws_eqFileS TT 3 93 ps_laws_eqFileS rs_laws_eqFileS 4 _).trans (by kernel_rfl)
theorem s_laws_eqFileS : RowOk Tryz.prog GT 140 5 93 (.sig ⟨ps_laws_eqFileS, rs_laws_eqFileS, C_laws_eqFileS⟩) := ⟨evF_sound (X := X_laws_eqFileS) (tabOk bld0 ⟨s_laws_eqFile, trivial⟩) TT 3 93 ps_laws_eqFileS rs_laws_eqFileS rfl, enters_fn (by kernel_rfl)⟩
@[reducible] def ps_laws_eqDisk : List Par := [⟨.val, true, (.sl 191 T_impl_File)⟩, ⟨.val, true, (.sl 191 T_impl_File)⟩]
@[reducible] def rs_laws_eqDisk : List (Bool × Ty) := [(false, .bool)]
noncomputable def X_laws_eqDisk : Ctx := ⟨Tryz.prog, GT, lkS [(93, .sig ⟨ps_laws_eqFileS, rs_laws_eqFileS, C_laws_eqFileS⟩)], 140, 5⟩
noncomputable def C_laws_eqDisk : TakD ps_laws_eqDisk → ValD ps_laws_eqDisk → Option (MutD ps_laws_eqDisk × ResD rs_laws_eqDisk) := evF X_laws_eqDisk TT 3 69 ps_laws_eqDisk rs_laws_eqDisk
theorem e_laws_eqDisk (a : List (T_impl_File.den)) (b : List (T_impl_File.den)) : C_laws_eqDisk () (a, b, ()) =
  Option.bind (C_laws_eqFileS () (a, b, ())) fun c1 =>
  bif !c1.snd.fst then
  some ((), false, ())
  else
  some ((), true, ()) := by
  kernel_rfl
theorem s_laws_eqDisk : RowOk Tryz.prog GT 140 5 69 (.sig ⟨ps_laws_eqDisk, rs_laws_eqDisk, C_laws_eqDisk⟩) := ⟨evF_sound (X := X_laws_eqDisk) (tabOk bld0 ⟨s_laws_eqFileS, trivial⟩) TT 3 69 ps_laws_eqDisk rs_laws_eqDisk rfl, enters_fn (by kernel_rfl)⟩
@[reducible] def ps_laws_eqLink : List Par := [⟨.val, true, T_impl_Link⟩, ⟨.val, true, T_impl_Link⟩]
@[reducible] def rs_laws_eqLink : List (Bool × Ty) := [(false, .bool)]
noncomputable def X_laws_eqLink : Ctx := ⟨Tryz.prog, GT, lkS [(25, .sig ⟨ps_laws_eqStringS, rs_laws_eqStringS, C_laws_eqStringS⟩)], 140, 5⟩
noncomputable def C_laws_eqLink : TakD ps_laws_eqLink → ValD ps_laws_eqLink → Option (MutD ps_laws_eqLink × ResD rs_laws_eqLink) := evF X_laws_eqLink TT 3 94 ps_laws_eqLink rs_laws_eqLink
theorem e_laws_eqLink (a : T_impl_Link.den) (b : T_impl_Link.den) : C_laws_eqLink () (a, b, ()) =
  Option.bind (C_laws_eqStringS () (a.fst, b.fst, ())) fun c1 =>
  bif !c1.snd.fst then
  some ((), false, ())
  else
  bif a.snd.fst != b.snd.fst then
  some ((), false, ())
  else
  bif a.snd.snd != b.snd.snd then
  some ((), false, ())
  else
  some ((), true, ()) := by
  kernel_rfl
theorem s_laws_eqLink : RowOk Tryz.prog GT 140 5 94 (.sig ⟨ps_laws_eqLink, rs_laws_eqLink, C_laws_eqLink⟩) := ⟨evF_sound (X := X_laws_eqLink) (tabOk bld0 ⟨s_laws_eqStringS, trivial⟩) TT 3 94 ps_laws_eqLink rs_laws_eqLink rfl, enters_fn (by kernel_rfl)⟩
@[reducible] def ps_laws_eqLinkS : List Par := [⟨.val, false, (.sl 164 T_impl_Link)⟩, ⟨.val, false, (.sl 164 T_impl_Link)⟩]
@[reducible] def rs_laws_eqLinkS : List (Bool × Ty) := [(false, .bool)]
noncomputable def X_laws_eqLinkS : Ctx := ⟨Tryz.prog, GT, lkS [(94, .sig ⟨ps_laws_eqLink, rs_laws_eqLink, C_laws_eqLink⟩)], 140, 5⟩
noncomputable def C_laws_eqLinkS : TakD ps_laws_eqLinkS → ValD ps_laws_eqLinkS → Option (MutD ps_laws_eqLinkS × ResD rs_laws_eqLinkS) := evF X_laws_eqLinkS TT 3 70 ps_laws_eqLinkS rs_laws_eqLinkS
noncomputable def L_laws_eqLinkS_4 (a : List (T_impl_Link.den)) (b : List (T_impl_Link.den)) (i : Int) : Option (MutD ps_laws_eqLinkS × ResD rs_laws_eqLinkS) := rsF X_laws_eqLinkS TT 3 70 ps_laws_eqLinkS rs_laws_eqLinkS 4 ⟨[(0, (.c (.bor T_impl_Link a))), (1, (.c (.bor T_impl_Link b))), (5, (.c (.int .i64 i)))], [], [], []⟩
theorem e_laws_eqLinkS (a : List (T_impl_Link.den)) (b : List (T_impl_Link.den)) : C_laws_eqLinkS () (a, b, ()) =
  bif (↑(List.length a) : Int) != (↑(List.length b) : Int) then
  some ((), false, ())
  else
  L_laws_eqLinkS_4 a b 0 := by
  kernel_rfl
theorem l_laws_eqLinkS_4 (a : List (T_impl_Link.den)) (b : List (T_impl_Link.den)) (i : Int) : L_laws_eqLinkS_4 a b i =
  bif ltC i (↑a.length : Int) then
  bif leC 0 i && ltC i (↑a.length : Int) then
  bif leC 0 i && ltC i (↑b.length : Int) then
  Option.bind (C_laws_eqLink () (a.getD i.toNat T_impl_Link.dflt, b.getD i.toNat T_impl_Link.dflt, ())) fun c1 =>
  bif !c1.snd.fst then
  some ((), false, ())
  else
  L_laws_eqLinkS_4 a b (IntKind.i64.wrap (i + 1))
  else
  none
  else
  none
  else
  some ((), true, ()) :=
  (rsF_eq X_laws_eqLinkS TT 3 70 ps_laws_eqLinkS rs_laws_eqLinkS 4 _).trans (by kernel_rfl)
theorem s_laws_eqLinkS : RowOk Tryz.prog GT 140 5 70 (.sig ⟨ps_laws_eqLinkS, rs_laws_eqLinkS, C_laws_eqLinkS⟩) := ⟨evF_sound (X := X_laws_eqLinkS) (tabOk bld0 ⟨s_laws_eqLink, trivial⟩) TT 3 70 ps_laws_eqLinkS rs_laws_eqLinkS rfl, enters_fn (by kernel_rfl)⟩
@[reducible] def ps_laws_eqIntS : List Par := [⟨.val, false, (.sl 3 (.int .i64))⟩, ⟨.val, false, (.sl 3 (.int .i64))⟩]
@[reducible] def rs_laws_eqIntS : List (Bool × Ty) := [(false, .bool)]
noncomputable def X_laws_eqIntS : Ctx := ⟨Tryz.prog, GT, lkS [], 140, 5⟩
noncomputable def C_laws_eqIntS : TakD ps_laws_eqIntS → ValD ps_laws_eqIntS → Option (MutD ps_laws_eqIntS × ResD rs_laws_eqIntS) := evF X_laws_eqIntS TT 3 26 ps_laws_eqIntS rs_laws_eqIntS
noncomputable def L_laws_eqIntS_4 (a : List (Int)) (b : List (Int)) (i : Int) : Option (MutD ps_laws_eqIntS × ResD rs_laws_eqIntS) := rsF X_laws_eqIntS TT 3 26 ps_laws_eqIntS rs_laws_eqIntS 4 ⟨[(0, (.c (.bor (.int .i64) a))), (1, (.c (.bor (.int .i64) b))), (5, (.c (.int .i64 i)))], [], [], []⟩
theorem e_laws_eqIntS (a : List (Int)) (b : List (Int)) : C_laws_eqIntS () (a, b, ()) =
  bif (↑(List.length a) : Int) != (↑(List.length b) : Int) then
  some ((), false, ())
  else
  L_laws_eqIntS_4 a b 0 := by
  kernel_rfl
theorem l_laws_eqIntS_4 (a : List (Int)) (b : List (Int)) (i : Int) : L_laws_eqIntS_4 a b i =
  bif ltC i (↑a.length : Int) then
  bif leC 0 i && ltC i (↑a.length : Int) then
  bif leC 0 i && ltC i (↑b.length : Int) then
  bif a.getD i.toNat 0 != b.getD i.toNat 0 then
  some ((), false, ())
  else
  L_laws_eqIntS_4 a b (IntKind.i64.wrap (i + 1))
  else
  none
  else
  none
  else
  some ((), true, ()) :=
  (rsF_eq X_laws_eqIntS TT 3 26 ps_laws_eqIntS rs_laws_eqIntS 4 _).trans (by kernel_rfl)
theorem s_laws_eqIntS : RowOk Tryz.prog GT 140 5 26 (.sig ⟨ps_laws_eqIntS, rs_laws_eqIntS, C_laws_eqIntS⟩) := ⟨evF_sound (X := X_laws_eqIntS) (tabOk bld0 trivial) TT 3 26 ps_laws_eqIntS rs_laws_eqIntS rfl, enters_fn (by kernel_rfl)⟩
@[reducible] def ps_laws_eqWalk : List Par := [⟨.val, true, T_impl_Walk⟩, ⟨.val, true, T_impl_Walk⟩]
@[reducible] def rs_laws_eqWalk : List (Bool × Ty) := [(false, .bool)]
noncomputable def X_laws_eqWalk : Ctx := ⟨Tryz.prog, GT, lkS [], 140, 5⟩
noncomputable def C_laws_eqWalk : TakD ps_laws_eqWalk → ValD ps_laws_eqWalk → Option (MutD ps_laws_eqWalk × ResD rs_laws_eqWalk) := evF X_laws_eqWalk TT 3 111 ps_laws_eqWalk rs_laws_eqWalk
theorem e_laws_eqWalk (a : T_impl_Walk.den) (b : T_impl_Walk.den) : C_laws_eqWalk () (a, b, ()) =
  bif a.fst != b.fst then
  some ((), false, ())
  else
  bif a.snd.fst != b.snd.fst then
  some ((), false, ())
  else
  bif a.snd.snd.fst != b.snd.snd.fst then
  some ((), false, ())
  else
  bif a.snd.snd.snd != b.snd.snd.snd then
  some ((), false, ())
  else
  some ((), true, ()) := by
  kernel_rfl
theorem s_laws_eqWalk : RowOk Tryz.prog GT 140 5 111 (.sig ⟨ps_laws_eqWalk, rs_laws_eqWalk, C_laws_eqWalk⟩) := ⟨evF_sound (X := X_laws_eqWalk) (tabOk bld0 trivial) TT 3 111 ps_laws_eqWalk rs_laws_eqWalk rfl, enters_fn (by kernel_rfl)⟩
@[reducible] def ps_laws_eqWalkS : List Par := [⟨.val, false, (.sl 194 T_impl_Walk)⟩, ⟨.val, false, (.sl 194 T_impl_Walk)⟩]
@[reducible] def rs_laws_eqWalkS : List (Bool × Ty) := [(false, .bool)]
noncomputable def X_laws_eqWalkS : Ctx := ⟨Tryz.prog, GT, lkS [(111, .sig ⟨ps_laws_eqWalk, rs_laws_eqWalk, C_laws_eqWalk⟩)], 140, 5⟩
noncomputable def C_laws_eqWalkS : TakD ps_laws_eqWalkS → ValD ps_laws_eqWalkS → Option (MutD ps_laws_eqWalkS × ResD rs_laws_eqWalkS) := evF X_laws_eqWalkS TT 3 95 ps_laws_eqWalkS rs_laws_eqWalkS
noncomputable def L_laws_eqWalkS_4 (a : List (T_impl_Walk.den)) (b : List (T_impl_Walk.den)) (i : Int) : Option (MutD ps_laws_eqWalkS × ResD rs_laws_eqWalkS) := rsF X_laws_eqWalkS TT 3 95 ps_laws_eqWalkS rs_laws_eqWalkS 4 ⟨[(0, (.c (.bor T_impl_Walk a))), (1, (.c (.bor T_impl_Walk b))), (5, (.c (.int .i64 i)))], [], [], []⟩
theorem e_laws_eqWalkS (a : List (T_impl_Walk.den)) (b : List (T_impl_Walk.den)) : C_laws_eqWalkS () (a, b, ()) =
  bif (↑(List.length a) : Int) != (↑(List.length b) : Int) then
  some ((), false, ())
  else
  L_laws_eqWalkS_4 a b 0 := by
  kernel_rfl
theorem l_laws_eqWalkS_4 (a : List (T_impl_Walk.den)) (b : List (T_impl_Walk.den)) (i : Int) : L_laws_eqWalkS_4 a b i =
  bif ltC i (↑a.length : Int) then
  bif leC 0 i && ltC i (↑a.length : Int) then
  bif leC 0 i && ltC i (↑b.length : Int) then
  Option.bind (C_laws_eqWalk () (a.getD i.toNat T_impl_Walk.dflt, b.getD i.toNat T_impl_Walk.dflt, ())) fun c1 =>
  bif !c1.snd.fst then
  some ((), false, ())
  else
  L_laws_eqWalkS_4 a b (IntKind.i64.wrap (i + 1))
  else
  none
  else
  none
  else
  some ((), true, ()) :=
  (rsF_eq X_laws_eqWalkS TT 3 95 ps_laws_eqWalkS rs_laws_eqWalkS 4 _).trans (by kernel_rfl)
theorem s_laws_eqWalkS : RowOk Tryz.prog GT 140 5 95 (.sig ⟨ps_laws_eqWalkS, rs_laws_eqWalkS, C_laws_eqWalkS⟩) := ⟨evF_sound (X := X_laws_eqWalkS) (tabOk bld0 ⟨s_laws_eqWalk, trivial⟩) TT 3 95 ps_laws_eqWalkS rs_laws_eqWalkS rfl, enters_fn (by kernel_rfl)⟩
@[reducible] def ps_laws_eqItem : List Par := [⟨.val, true, T_impl_Item⟩, ⟨.val, true, T_impl_Item⟩]
@[reducible] def rs_laws_eqItem : List (Bool × Ty) := [(false, .bool)]
noncomputable def X_laws_eqItem : Ctx := ⟨Tryz.prog, GT, lkS [(26, .sig ⟨ps_laws_eqIntS, rs_laws_eqIntS, C_laws_eqIntS⟩)], 140, 5⟩
noncomputable def C_laws_eqItem : TakD ps_laws_eqItem → ValD ps_laws_eqItem → Option (MutD ps_laws_eqItem × ResD rs_laws_eqItem) := evF X_laws_eqItem TT 3 99 ps_laws_eqItem rs_laws_eqItem
theorem e_laws_eqItem (a : T_impl_Item.den) (b : T_impl_Item.den) : C_laws_eqItem () (a, b, ()) =
  Option.bind (C_laws_eqIntS () (a.fst, b.fst, ())) fun c1 =>
  bif !c1.snd.fst then
  some ((), false, ())
  else
  bif a.snd != b.snd then
  some ((), false, ())
  else
  some ((), true, ()) := by
  kernel_rfl
theorem s_laws_eqItem : RowOk Tryz.prog GT 140 5 99 (.sig ⟨ps_laws_eqItem, rs_laws_eqItem, C_laws_eqItem⟩) := ⟨evF_sound (X := X_laws_eqItem) (tabOk bld0 ⟨s_laws_eqIntS, trivial⟩) TT 3 99 ps_laws_eqItem rs_laws_eqItem rfl, enters_fn (by kernel_rfl)⟩
@[reducible] def ps_laws_eqItemS : List Par := [⟨.val, false, (.sl 92 T_impl_Item)⟩, ⟨.val, false, (.sl 92 T_impl_Item)⟩]
@[reducible] def rs_laws_eqItemS : List (Bool × Ty) := [(false, .bool)]
noncomputable def X_laws_eqItemS : Ctx := ⟨Tryz.prog, GT, lkS [(99, .sig ⟨ps_laws_eqItem, rs_laws_eqItem, C_laws_eqItem⟩)], 140, 5⟩
noncomputable def C_laws_eqItemS : TakD ps_laws_eqItemS → ValD ps_laws_eqItemS → Option (MutD ps_laws_eqItemS × ResD rs_laws_eqItemS) := evF X_laws_eqItemS TT 3 73 ps_laws_eqItemS rs_laws_eqItemS
noncomputable def L_laws_eqItemS_4 (a : List (T_impl_Item.den)) (b : List (T_impl_Item.den)) (i : Int) : Option (MutD ps_laws_eqItemS × ResD rs_laws_eqItemS) := rsF X_laws_eqItemS TT 3 73 ps_laws_eqItemS rs_laws_eqItemS 4 ⟨[(0, (.c (.bor T_impl_Item a))), (1, (.c (.bor T_impl_Item b))), (5, (.c (.int .i64 i)))], [], [], []⟩
theorem e_laws_eqItemS (a : List (T_impl_Item.den)) (b : List (T_impl_Item.den)) : C_laws_eqItemS () (a, b, ()) =
  bif (↑(List.length a) : Int) != (↑(List.length b) : Int) then
  some ((), false, ())
  else
  L_laws_eqItemS_4 a b 0 := by
  kernel_rfl
theorem l_laws_eqItemS_4 (a : List (T_impl_Item.den)) (b : List (T_impl_Item.den)) (i : Int) : L_laws_eqItemS_4 a b i =
  bif ltC i (↑a.length : Int) then
  bif leC 0 i && ltC i (↑a.length : Int) then
  bif leC 0 i && ltC i (↑b.length : Int) then
  Option.bind (C_laws_eqItem () (a.getD i.toNat T_impl_Item.dflt, b.getD i.toNat T_impl_Item.dflt, ())) fun c1 =>
  bif !c1.snd.fst then
  some ((), false, ())
  else
  L_laws_eqItemS_4 a b (IntKind.i64.wrap (i + 1))
  else
  none
  else
  none
  else
  some ((), true, ()) :=
  (rsF_eq X_laws_eqItemS TT 3 73 ps_laws_eqItemS rs_laws_eqItemS 4 _).trans (by kernel_rfl)
theorem s_laws_eqItemS : RowOk Tryz.prog GT 140 5 73 (.sig ⟨ps_laws_eqItemS, rs_laws_eqItemS, C_laws_eqItemS⟩) := ⟨evF_sound (X := X_laws_eqItemS) (tabOk bld0 ⟨s_laws_eqItem, trivial⟩) TT 3 73 ps_laws_eqItemS rs_laws_eqItemS rfl, enters_fn (by kernel_rfl)⟩
@[reducible] def ps_laws_eqBag : List Par := [⟨.val, true, (.sl 92 T_impl_Item)⟩, ⟨.val, true, (.sl 92 T_impl_Item)⟩]
@[reducible] def rs_laws_eqBag : List (Bool × Ty) := [(false, .bool)]
noncomputable def X_laws_eqBag : Ctx := ⟨Tryz.prog, GT, lkS [(73, .sig ⟨ps_laws_eqItemS, rs_laws_eqItemS, C_laws_eqItemS⟩)], 140, 5⟩
noncomputable def C_laws_eqBag : TakD ps_laws_eqBag → ValD ps_laws_eqBag → Option (MutD ps_laws_eqBag × ResD rs_laws_eqBag) := evF X_laws_eqBag TT 3 45 ps_laws_eqBag rs_laws_eqBag
theorem e_laws_eqBag (a : List (T_impl_Item.den)) (b : List (T_impl_Item.den)) : C_laws_eqBag () (a, b, ()) =
  Option.bind (C_laws_eqItemS () (a, b, ())) fun c1 =>
  bif !c1.snd.fst then
  some ((), false, ())
  else
  some ((), true, ()) := by
  kernel_rfl
theorem s_laws_eqBag : RowOk Tryz.prog GT 140 5 45 (.sig ⟨ps_laws_eqBag, rs_laws_eqBag, C_laws_eqBag⟩) := ⟨evF_sound (X := X_laws_eqBag) (tabOk bld0 ⟨s_laws_eqItemS, trivial⟩) TT 3 45 ps_laws_eqBag rs_laws_eqBag rfl, enters_fn (by kernel_rfl)⟩
@[reducible] def ps_laws_eqGot : List Par := [⟨.val, true, T_impl_Got⟩, ⟨.val, true, T_impl_Got⟩]
@[reducible] def rs_laws_eqGot : List (Bool × Ty) := [(false, .bool)]
noncomputable def X_laws_eqGot : Ctx := ⟨Tryz.prog, GT, lkS [(45, .sig ⟨ps_laws_eqBag, rs_laws_eqBag, C_laws_eqBag⟩)], 140, 5⟩
noncomputable def C_laws_eqGot : TakD ps_laws_eqGot → ValD ps_laws_eqGot → Option (MutD ps_laws_eqGot × ResD rs_laws_eqGot) := evF X_laws_eqGot TT 3 113 ps_laws_eqGot rs_laws_eqGot
theorem e_laws_eqGot (a : T_impl_Got.den) (b : T_impl_Got.den) : C_laws_eqGot () (a, b, ()) =
  bif a.fst != b.fst then
  some ((), false, ())
  else
  bif a.snd.fst != b.snd.fst then
  some ((), false, ())
  else
  Option.bind (C_laws_eqBag () (a.snd.snd, b.snd.snd, ())) fun c1 =>
  bif !c1.snd.fst then
  some ((), false, ())
  else
  some ((), true, ()) := by
  kernel_rfl
theorem s_laws_eqGot : RowOk Tryz.prog GT 140 5 113 (.sig ⟨ps_laws_eqGot, rs_laws_eqGot, C_laws_eqGot⟩) := ⟨evF_sound (X := X_laws_eqGot) (tabOk bld0 ⟨s_laws_eqBag, trivial⟩) TT 3 113 ps_laws_eqGot rs_laws_eqGot rfl, enters_fn (by kernel_rfl)⟩
@[reducible] def ps_laws_eqGotS : List Par := [⟨.val, false, (.sl 203 T_impl_Got)⟩, ⟨.val, false, (.sl 203 T_impl_Got)⟩]
@[reducible] def rs_laws_eqGotS : List (Bool × Ty) := [(false, .bool)]
noncomputable def X_laws_eqGotS : Ctx := ⟨Tryz.prog, GT, lkS [(113, .sig ⟨ps_laws_eqGot, rs_laws_eqGot, C_laws_eqGot⟩)], 140, 5⟩
noncomputable def C_laws_eqGotS : TakD ps_laws_eqGotS → ValD ps_laws_eqGotS → Option (MutD ps_laws_eqGotS × ResD rs_laws_eqGotS) := evF X_laws_eqGotS TT 3 98 ps_laws_eqGotS rs_laws_eqGotS
noncomputable def L_laws_eqGotS_4 (a : List (T_impl_Got.den)) (b : List (T_impl_Got.den)) (i : Int) : Option (MutD ps_laws_eqGotS × ResD rs_laws_eqGotS) := rsF X_laws_eqGotS TT 3 98 ps_laws_eqGotS rs_laws_eqGotS 4 ⟨[(0, (.c (.bor T_impl_Got a))), (1, (.c (.bor T_impl_Got b))), (5, (.c (.int .i64 i)))], [], [], []⟩
theorem e_laws_eqGotS (a : List (T_impl_Got.den)) (b : List (T_impl_Got.den)) : C_laws_eqGotS () (a, b, ()) =
  bif (↑(List.length a) : Int) != (↑(List.length b) : Int) then
  some ((), false, ())
  else
  L_laws_eqGotS_4 a b 0 := by
  kernel_rfl
theorem l_laws_eqGotS_4 (a : List (T_impl_Got.den)) (b : List (T_impl_Got.den)) (i : Int) : L_laws_eqGotS_4 a b i =
  bif ltC i (↑a.length : Int) then
  bif leC 0 i && ltC i (↑a.length : Int) then
  bif leC 0 i && ltC i (↑b.length : Int) then
  Option.bind (C_laws_eqGot () (a.getD i.toNat T_impl_Got.dflt, b.getD i.toNat T_impl_Got.dflt, ())) fun c1 =>
  bif !c1.snd.fst then
  some ((), false, ())
  else
  L_laws_eqGotS_4 a b (IntKind.i64.wrap (i + 1))
  else
  none
  else
  none
  else
  some ((), true, ()) :=
  (rsF_eq X_laws_eqGotS TT 3 98 ps_laws_eqGotS rs_laws_eqGotS 4 _).trans (by kernel_rfl)
theorem s_laws_eqGotS : RowOk Tryz.prog GT 140 5 98 (.sig ⟨ps_laws_eqGotS, rs_laws_eqGotS, C_laws_eqGotS⟩) := ⟨evF_sound (X := X_laws_eqGotS) (tabOk bld0 ⟨s_laws_eqGot, trivial⟩) TT 3 98 ps_laws_eqGotS rs_laws_eqGotS rfl, enters_fn (by kernel_rfl)⟩
@[reducible] def ps_laws_eqCell : List Par := [⟨.val, true, T_impl_Cell⟩, ⟨.val, true, T_impl_Cell⟩]
@[reducible] def rs_laws_eqCell : List (Bool × Ty) := [(false, .bool)]
noncomputable def X_laws_eqCell : Ctx := ⟨Tryz.prog, GT, lkS [(23, .sig ⟨ps_laws_eqQuery, rs_laws_eqQuery, C_laws_eqQuery⟩), (26, .sig ⟨ps_laws_eqIntS, rs_laws_eqIntS, C_laws_eqIntS⟩), (98, .sig ⟨ps_laws_eqGotS, rs_laws_eqGotS, C_laws_eqGotS⟩)], 140, 5⟩
noncomputable def C_laws_eqCell : TakD ps_laws_eqCell → ValD ps_laws_eqCell → Option (MutD ps_laws_eqCell × ResD rs_laws_eqCell) := evF X_laws_eqCell TT 3 96 ps_laws_eqCell rs_laws_eqCell
theorem e_laws_eqCell (a : T_impl_Cell.den) (b : T_impl_Cell.den) : C_laws_eqCell () (a, b, ()) =
  Option.bind (C_laws_eqQuery () (a.fst, b.fst, ())) fun c1 =>
  bif !c1.snd.fst then
  some ((), false, ())
  else
  Option.bind (C_laws_eqIntS () (a.snd.fst, b.snd.fst, ())) fun c2 =>
  bif !c2.snd.fst then
  some ((), false, ())
  else
  bif a.snd.snd.fst != b.snd.snd.fst then
  some ((), false, ())
  else
  bif a.snd.snd.snd.fst != b.snd.snd.snd.fst then
  some ((), false, ())
  else
  Option.bind (C_laws_eqGotS () (a.snd.snd.snd.snd, b.snd.snd.snd.snd, ())) fun c3 =>
  bif !c3.snd.fst then
  some ((), false, ())
  else
  some ((), true, ()) := by
  kernel_rfl
theorem s_laws_eqCell : RowOk Tryz.prog GT 140 5 96 (.sig ⟨ps_laws_eqCell, rs_laws_eqCell, C_laws_eqCell⟩) := ⟨evF_sound (X := X_laws_eqCell) (tabOk bld0 ⟨s_laws_eqQuery, s_laws_eqIntS, s_laws_eqGotS, trivial⟩) TT 3 96 ps_laws_eqCell rs_laws_eqCell rfl, enters_fn (by kernel_rfl)⟩
@[reducible] def ps_laws_eqLetter : List Par := [⟨.val, true, T_impl_Letter⟩, ⟨.val, true, T_impl_Letter⟩]
@[reducible] def rs_laws_eqLetter : List (Bool × Ty) := [(false, .bool)]
noncomputable def X_laws_eqLetter : Ctx := ⟨Tryz.prog, GT, lkS [(95, .sig ⟨ps_laws_eqWalkS, rs_laws_eqWalkS, C_laws_eqWalkS⟩)], 140, 5⟩
noncomputable def C_laws_eqLetter : TakD ps_laws_eqLetter → ValD ps_laws_eqLetter → Option (MutD ps_laws_eqLetter × ResD rs_laws_eqLetter) := evF X_laws_eqLetter TT 3 121 ps_laws_eqLetter rs_laws_eqLetter
theorem e_laws_eqLetter (a : T_impl_Letter.den) (b : T_impl_Letter.den) : C_laws_eqLetter () (a, b, ()) =
  bif a.fst != b.fst then
  some ((), false, ())
  else
  bif a.snd.fst != b.snd.fst then
  some ((), false, ())
  else
  bif a.snd.snd.fst != b.snd.snd.fst then
  some ((), false, ())
  else
  bif !a.snd.snd.snd.fst == b.snd.snd.snd.fst then
  some ((), false, ())
  else
  Option.bind (C_laws_eqWalkS () (a.snd.snd.snd.snd.fst, b.snd.snd.snd.snd.fst, ())) fun c1 =>
  bif !c1.snd.fst then
  some ((), false, ())
  else
  bif !a.snd.snd.snd.snd.snd == b.snd.snd.snd.snd.snd then
  some ((), false, ())
  else
  some ((), true, ()) := by
  kernel_rfl
theorem s_laws_eqLetter : RowOk Tryz.prog GT 140 5 121 (.sig ⟨ps_laws_eqLetter, rs_laws_eqLetter, C_laws_eqLetter⟩) := ⟨evF_sound (X := X_laws_eqLetter) (tabOk bld0 ⟨s_laws_eqWalkS, trivial⟩) TT 3 121 ps_laws_eqLetter rs_laws_eqLetter rfl, enters_fn (by kernel_rfl)⟩
@[reducible] def ps_laws_eqMail : List Par := [⟨.val, true, T_impl_Mail⟩, ⟨.val, true, T_impl_Mail⟩]
@[reducible] def rs_laws_eqMail : List (Bool × Ty) := [(false, .bool)]
noncomputable def X_laws_eqMail : Ctx := ⟨Tryz.prog, GT, lkS [(121, .sig ⟨ps_laws_eqLetter, rs_laws_eqLetter, C_laws_eqLetter⟩)], 140, 5⟩
noncomputable def C_laws_eqMail : TakD ps_laws_eqMail → ValD ps_laws_eqMail → Option (MutD ps_laws_eqMail × ResD rs_laws_eqMail) := evF X_laws_eqMail TT 3 112 ps_laws_eqMail rs_laws_eqMail
theorem e_laws_eqMail (a : T_impl_Mail.den) (b : T_impl_Mail.den) : C_laws_eqMail () (a, b, ()) =
  bif a.fst != b.fst then
  some ((), false, ())
  else
  Option.bind (C_laws_eqLetter () (a.snd, b.snd, ())) fun c1 =>
  bif !c1.snd.fst then
  some ((), false, ())
  else
  some ((), true, ()) := by
  kernel_rfl
theorem s_laws_eqMail : RowOk Tryz.prog GT 140 5 112 (.sig ⟨ps_laws_eqMail, rs_laws_eqMail, C_laws_eqMail⟩) := ⟨evF_sound (X := X_laws_eqMail) (tabOk bld0 ⟨s_laws_eqLetter, trivial⟩) TT 3 112 ps_laws_eqMail rs_laws_eqMail rfl, enters_fn (by kernel_rfl)⟩
@[reducible] def ps_laws_eqMailS : List Par := [⟨.val, false, (.sl 200 T_impl_Mail)⟩, ⟨.val, false, (.sl 200 T_impl_Mail)⟩]
@[reducible] def rs_laws_eqMailS : List (Bool × Ty) := [(false, .bool)]
noncomputable def X_laws_eqMailS : Ctx := ⟨Tryz.prog, GT, lkS [(112, .sig ⟨ps_laws_eqMail, rs_laws_eqMail, C_laws_eqMail⟩)], 140, 5⟩
noncomputable def C_laws_eqMailS : TakD ps_laws_eqMailS → ValD ps_laws_eqMailS → Option (MutD ps_laws_eqMailS × ResD rs_laws_eqMailS) := evF X_laws_eqMailS TT 3 97 ps_laws_eqMailS rs_laws_eqMailS
noncomputable def L_laws_eqMailS_4 (a : List (T_impl_Mail.den)) (b : List (T_impl_Mail.den)) (i : Int) : Option (MutD ps_laws_eqMailS × ResD rs_laws_eqMailS) := rsF X_laws_eqMailS TT 3 97 ps_laws_eqMailS rs_laws_eqMailS 4 ⟨[(0, (.c (.bor T_impl_Mail a))), (1, (.c (.bor T_impl_Mail b))), (5, (.c (.int .i64 i)))], [], [], []⟩
theorem e_laws_eqMailS (a : List (T_impl_Mail.den)) (b : List (T_impl_Mail.den)) : C_laws_eqMailS () (a, b, ()) =
  bif (↑(List.length a) : Int) != (↑(List.length b) : Int) then
  some ((), false, ())
  else
  L_laws_eqMailS_4 a b 0 := by
  kernel_rfl
theorem l_laws_eqMailS_4 (a : List (T_impl_Mail.den)) (b : List (T_impl_Mail.den)) (i : Int) : L_laws_eqMailS_4 a b i =
  bif ltC i (↑a.length : Int) then
  bif leC 0 i && ltC i (↑a.length : Int) then
  bif leC 0 i && ltC i (↑b.length : Int) then
  Option.bind (C_laws_eqMail () (a.getD i.toNat T_impl_Mail.dflt, b.getD i.toNat T_impl_Mail.dflt, ())) fun c1 =>
  bif !c1.snd.fst then
  some ((), false, ())
  else
  L_laws_eqMailS_4 a b (IntKind.i64.wrap (i + 1))
  else
  none
  else
  none
  else
  some ((), true, ()) :=
  (rsF_eq X_laws_eqMailS TT 3 97 ps_laws_eqMailS rs_laws_eqMailS 4 _).trans (by kernel_rfl)
theorem s_laws_eqMailS : RowOk Tryz.prog GT 140 5 97 (.sig ⟨ps_laws_eqMailS, rs_laws_eqMailS, C_laws_eqMailS⟩) := ⟨evF_sound (X := X_laws_eqMailS) (tabOk bld0 ⟨s_laws_eqMail, trivial⟩) TT 3 97 ps_laws_eqMailS rs_laws_eqMailS rfl, enters_fn (by kernel_rfl)⟩
@[reducible] def ps_laws_eqWork : List Par := [⟨.val, true, T_impl_Work⟩, ⟨.val, true, T_impl_Work⟩]
@[reducible] def rs_laws_eqWork : List (Bool × Ty) := [(false, .bool)]
noncomputable def X_laws_eqWork : Ctx := ⟨Tryz.prog, GT, lkS [(23, .sig ⟨ps_laws_eqQuery, rs_laws_eqQuery, C_laws_eqQuery⟩), (26, .sig ⟨ps_laws_eqIntS, rs_laws_eqIntS, C_laws_eqIntS⟩), (95, .sig ⟨ps_laws_eqWalkS, rs_laws_eqWalkS, C_laws_eqWalkS⟩), (96, .sig ⟨ps_laws_eqCell, rs_laws_eqCell, C_laws_eqCell⟩), (97, .sig ⟨ps_laws_eqMailS, rs_laws_eqMailS, C_laws_eqMailS⟩)], 140, 5⟩
noncomputable def C_laws_eqWork : TakD ps_laws_eqWork → ValD ps_laws_eqWork → Option (MutD ps_laws_eqWork × ResD rs_laws_eqWork) := evF X_laws_eqWork TT 3 71 ps_laws_eqWork rs_laws_eqWork
theorem e_laws_eqWork (t : T_impl_Work.den) (o : T_impl_Work.den) : C_laws_eqWork () (t, o, ()) =
  bif !t.fst == o.fst then
  some ((), false, ())
  else
  Option.bind (C_laws_eqQuery () (t.snd.fst, o.snd.fst, ())) fun c1 =>
  bif !c1.snd.fst then
  some ((), false, ())
  else
  Option.bind (C_laws_eqIntS () (t.snd.snd.fst, o.snd.snd.fst, ())) fun c2 =>
  bif !c2.snd.fst then
  some ((), false, ())
  else
  bif t.snd.snd.snd.fst != o.snd.snd.snd.fst then
  some ((), false, ())
  else
  Option.bind (C_laws_eqWalkS () (t.snd.snd.snd.snd.fst, o.snd.snd.snd.snd.fst, ())) fun c3 =>
  bif !c3.snd.fst then
  some ((), false, ())
  else
  bif t.snd.snd.snd.snd.snd.fst != o.snd.snd.snd.snd.snd.fst then
  some ((), false, ())
  else
  bif !t.snd.snd.snd.snd.snd.snd.fst == o.snd.snd.snd.snd.snd.snd.fst then
  some ((), false, ())
  else
  bif !t.snd.snd.snd.snd.snd.snd.snd.fst == o.snd.snd.snd.snd.snd.snd.snd.fst then
  some ((), false, ())
  else
  bif t.snd.snd.snd.snd.snd.snd.snd.snd.fst != o.snd.snd.snd.snd.snd.snd.snd.snd.fst then
  some ((), false, ())
  else
  bif !t.snd.snd.snd.snd.snd.snd.snd.snd.snd.fst == o.snd.snd.snd.snd.snd.snd.snd.snd.snd.fst then
  some ((), false, ())
  else
  bif !t.snd.snd.snd.snd.snd.snd.snd.snd.snd.snd.fst == o.snd.snd.snd.snd.snd.snd.snd.snd.snd.snd.fst then
  some ((), false, ())
  else
  Option.bind (C_laws_eqCell () (t.snd.snd.snd.snd.snd.snd.snd.snd.snd.snd.snd.fst, o.snd.snd.snd.snd.snd.snd.snd.snd.snd.snd.snd.fst, ())) fun c4 =>
  bif !c4.snd.fst then
  some ((), false, ())
  else
  bif !t.snd.snd.snd.snd.snd.snd.snd.snd.snd.snd.snd.snd.fst == o.snd.snd.snd.snd.snd.snd.snd.snd.snd.snd.snd.snd.fst then
  some ((), false, ())
  else
  Option.bind (C_laws_eqMailS () (t.snd.snd.snd.snd.snd.snd.snd.snd.snd.snd.snd.snd.snd, o.snd.snd.snd.snd.snd.snd.snd.snd.snd.snd.snd.snd.snd, ())) fun c5 =>
  bif !c5.snd.fst then
  some ((), false, ())
  else
  some ((), true, ()) := by
  kernel_rfl
theorem s_laws_eqWork : RowOk Tryz.prog GT 140 5 71 (.sig ⟨ps_laws_eqWork, rs_laws_eqWork, C_laws_eqWork⟩) := ⟨evF_sound (X := X_laws_eqWork) (tabOk bld0 ⟨s_laws_eqQuery, s_laws_eqIntS, s_laws_eqWalkS, s_laws_eqCell, s_laws_eqMailS, trivial⟩) TT 3 71 ps_laws_eqWork rs_laws_eqWork rfl, enters_fn (by kernel_rfl)⟩
@[reducible] def ps_laws_eqAsk : List Par := [⟨.val, true, T_impl_Ask⟩, ⟨.val, true, T_impl_Ask⟩]
@[reducible] def rs_laws_eqAsk : List (Bool × Ty) := [(false, .bool)]
noncomputable def X_laws_eqAsk : Ctx := ⟨Tryz.prog, GT, lkS [(23, .sig ⟨ps_laws_eqQuery, rs_laws_eqQuery, C_laws_eqQuery⟩), (26, .sig ⟨ps_laws_eqIntS, rs_laws_eqIntS, C_laws_eqIntS⟩), (45, .sig ⟨ps_laws_eqBag, rs_laws_eqBag, C_laws_eqBag⟩), (98, .sig ⟨ps_laws_eqGotS, rs_laws_eqGotS, C_laws_eqGotS⟩)], 140, 5⟩
noncomputable def C_laws_eqAsk : TakD ps_laws_eqAsk → ValD ps_laws_eqAsk → Option (MutD ps_laws_eqAsk × ResD rs_laws_eqAsk) := evF X_laws_eqAsk TT 3 72 ps_laws_eqAsk rs_laws_eqAsk
theorem e_laws_eqAsk (a : T_impl_Ask.den) (b : T_impl_Ask.den) : C_laws_eqAsk () (a, b, ()) =
  bif !a.fst == b.fst then
  some ((), false, ())
  else
  Option.bind (C_laws_eqQuery () (a.snd.fst, b.snd.fst, ())) fun c1 =>
  bif !c1.snd.fst then
  some ((), false, ())
  else
  Option.bind (C_laws_eqIntS () (a.snd.snd.fst, b.snd.snd.fst, ())) fun c2 =>
  bif !c2.snd.fst then
  some ((), false, ())
  else
  bif a.snd.snd.snd.fst != b.snd.snd.snd.fst then
  some ((), false, ())
  else
  Option.bind (C_laws_eqGotS () (a.snd.snd.snd.snd.fst, b.snd.snd.snd.snd.fst, ())) fun c3 =>
  bif !c3.snd.fst then
  some ((), false, ())
  else
  bif !a.snd.snd.snd.snd.snd.fst == b.snd.snd.snd.snd.snd.fst then
  some ((), false, ())
  else
  Option.bind (C_laws_eqBag () (a.snd.snd.snd.snd.snd.snd, b.snd.snd.snd.snd.snd.snd, ())) fun c4 =>
  bif !c4.snd.fst then
  some ((), false, ())
  else
  some ((), true, ()) := by
  kernel_rfl
theorem s_laws_eqAsk : RowOk Tryz.prog GT 140 5 72 (.sig ⟨ps_laws_eqAsk, rs_laws_eqAsk, C_laws_eqAsk⟩) := ⟨evF_sound (X := X_laws_eqAsk) (tabOk bld0 ⟨s_laws_eqQuery, s_laws_eqIntS, s_laws_eqBag, s_laws_eqGotS, trivial⟩) TT 3 72 ps_laws_eqAsk rs_laws_eqAsk rfl, enters_fn (by kernel_rfl)⟩
@[reducible] def ps_laws_eqNode : List Par := [⟨.val, true, T_impl_Node⟩, ⟨.val, true, T_impl_Node⟩]
@[reducible] def rs_laws_eqNode : List (Bool × Ty) := [(false, .bool)]
noncomputable def X_laws_eqNode : Ctx := ⟨Tryz.prog, GT, lkS [(69, .sig ⟨ps_laws_eqDisk, rs_laws_eqDisk, C_laws_eqDisk⟩), (70, .sig ⟨ps_laws_eqLinkS, rs_laws_eqLinkS, C_laws_eqLinkS⟩), (71, .sig ⟨ps_laws_eqWork, rs_laws_eqWork, C_laws_eqWork⟩), (72, .sig ⟨ps_laws_eqAsk, rs_laws_eqAsk, C_laws_eqAsk⟩)], 140, 5⟩
noncomputable def C_laws_eqNode : TakD ps_laws_eqNode → ValD ps_laws_eqNode → Option (MutD ps_laws_eqNode × ResD rs_laws_eqNode) := evF X_laws_eqNode TT 3 44 ps_laws_eqNode rs_laws_eqNode
theorem e_laws_eqNode (a : T_impl_Node.den) (b : T_impl_Node.den) : C_laws_eqNode () (a, b, ()) =
  bif a.fst != b.fst then
  some ((), false, ())
  else
  bif !a.snd.fst == b.snd.fst then
  some ((), false, ())
  else
  Option.bind (C_laws_eqDisk () (a.snd.snd.fst, b.snd.snd.fst, ())) fun c1 =>
  bif !c1.snd.fst then
  some ((), false, ())
  else
  bif a.snd.snd.snd.fst != b.snd.snd.snd.fst then
  some ((), false, ())
  else
  bif !a.snd.snd.snd.snd.fst == b.snd.snd.snd.snd.fst then
  some ((), false, ())
  else
  Option.bind (C_laws_eqLinkS () (a.snd.snd.snd.snd.snd.fst, b.snd.snd.snd.snd.snd.fst, ())) fun c2 =>
  bif !c2.snd.fst then
  some ((), false, ())
  else
  Option.bind (C_laws_eqWork () (a.snd.snd.snd.snd.snd.snd.fst, b.snd.snd.snd.snd.snd.snd.fst, ())) fun c3 =>
  bif !c3.snd.fst then
  some ((), false, ())
  else
  Option.bind (C_laws_eqAsk () (a.snd.snd.snd.snd.snd.snd.snd, b.snd.snd.snd.snd.snd.snd.snd, ())) fun c4 =>
  bif !c4.snd.fst then
  some ((), false, ())
  else
  some ((), true, ()) := by
  kernel_rfl
theorem s_laws_eqNode : RowOk Tryz.prog GT 140 5 44 (.sig ⟨ps_laws_eqNode, rs_laws_eqNode, C_laws_eqNode⟩) := ⟨evF_sound (X := X_laws_eqNode) (tabOk bld0 ⟨s_laws_eqDisk, s_laws_eqLinkS, s_laws_eqWork, s_laws_eqAsk, trivial⟩) TT 3 44 ps_laws_eqNode rs_laws_eqNode rfl, enters_fn (by kernel_rfl)⟩
end Go.Proofs.YtglbaihiibdemaaGreatDoor.Fn
