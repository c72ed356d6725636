/- What is proved here: what functions of the program compute, as plain Lean terms; each by evaluation; and their contracts. -/
import Derived.Test.YtglbaihiibdemaaGreatDoorItoa
namespace Go.Proofs.YtglbaihiibdemaaGreatDoor.Fn
open Go Go.Proofs Go.Proofs.YtglbaihiibdemaaGreatDoor.Am
set_option autoImplicit false
set_option maxRecDepth 100000
@[reducible] def T_impl_Atom : Ty := (.pair .str (.pair .str .str))
@[reducible] def T_impl_File : Ty := (.pair .str (.pair .str (.int .i64)))
@[reducible] def T_impl_Item : Ty := (.pair (.sl 3 (.int .i64)) (.int .i64))
@[reducible] def T_impl_Filter : Ty := (.pair .str (.pair (.int .i64) (.pair .str (.int .i64))))
@[reducible] def T_impl_Link : Ty := (.pair (.sl 9 .str) (.pair (.int .i64) (.int .i64)))
@[reducible] def T_impl_Walk : Ty := (.pair (.int .i64) (.pair (.int .i64) (.pair (.int .i64) (.int .i64))))
@[reducible] def T_laws_Got : Ty := (.pair (.int .i64) (.pair (.int .i64) (.sl 162 T_impl_Item)))
@[reducible] def T_impl_Got : Ty := (.pair (.int .i64) (.pair (.int .i64) (.sl 92 T_impl_Item)))
@[reducible] def T_impl_Query : Ty := (.pair .bool (.pair (.sl 9 .str) (.pair (.sl 129 T_impl_Atom) (.sl 131 T_impl_Filter))))
@[reducible] def T_laws_Query : Ty := (.pair .bool (.pair (.sl 9 .str) (.pair (.sl 118 T_impl_Atom) (.sl 121 T_impl_Filter))))
@[reducible] def T_impl_Letter : Ty := (.pair (.int .i64) (.pair (.int .i64) (.pair (.int .i64) (.pair .bool (.pair (.sl 194 T_impl_Walk) .str)))))
@[reducible] def T_laws_Letter : Ty := (.pair (.int .i64) (.pair (.int .i64) (.pair (.int .i64) (.pair .bool (.pair (.sl 196 T_impl_Walk) .str)))))
@[reducible] def T_impl_Mail : Ty := (.pair (.int .i64) T_impl_Letter)
@[reducible] def T_laws_Mail : Ty := (.pair (.int .i64) T_laws_Letter)
@[reducible] def T_impl_Cell : Ty := (.pair T_impl_Query (.pair (.sl 3 (.int .i64)) (.pair (.int .i64) (.pair (.int .i64) (.sl 203 T_impl_Got)))))
@[reducible] def T_laws_Cell : Ty := (.pair T_laws_Query (.pair (.sl 3 (.int .i64)) (.pair (.int .i64) (.pair (.int .i64) (.sl 190 T_laws_Got)))))
@[reducible] def T_laws_Ask : Ty := (.pair .bool (.pair T_laws_Query (.pair (.sl 3 (.int .i64)) (.pair (.int .i64) (.pair (.sl 190 T_laws_Got) (.pair .bool (.sl 162 T_impl_Item)))))))
@[reducible] def T_impl_Ask : Ty := (.pair .bool (.pair T_impl_Query (.pair (.sl 3 (.int .i64)) (.pair (.int .i64) (.pair (.sl 203 T_impl_Got) (.pair .bool (.sl 92 T_impl_Item)))))))
@[reducible] def T_impl_Work : Ty := (.pair .bool (.pair T_impl_Query (.pair (.sl 3 (.int .i64)) (.pair (.int .i64) (.pair (.sl 194 T_impl_Walk) (.pair (.int .i64) (.pair .bool (.pair .bool (.pair (.int .i64) (.pair .bool (.pair .bool (.pair T_impl_Cell (.pair .bool (.sl 200 T_impl_Mail))))))))))))))
@[reducible] def T_laws_Work : Ty := (.pair .bool (.pair T_laws_Query (.pair (.sl 3 (.int .i64)) (.pair (.int .i64) (.pair (.sl 196 T_impl_Walk) (.pair (.int .i64) (.pair .bool (.pair .bool (.pair (.int .i64) (.pair .bool (.pair .bool (.pair T_laws_Cell (.pair .bool (.sl 187 T_laws_Mail))))))))))))))
@[reducible] def T_impl_Node : Ty := (.pair (.int .i64) (.pair .bool (.pair (.sl 191 T_impl_File) (.pair (.int .i64) (.pair .bool (.pair (.sl 164 T_impl_Link) (.pair T_impl_Work T_impl_Ask)))))))
@[reducible] def T_laws_Node : Ty := (.pair (.int .i64) (.pair .bool (.pair (.sl 182 T_impl_File) (.pair (.int .i64) (.pair .bool (.pair (.sl 156 T_impl_Link) (.pair T_laws_Work T_laws_Ask)))))))
@[reducible] def T_laws_Cluster : Ty := (.pair T_laws_Query (.pair (.sl 86 T_laws_Node) (.pair (.sl 9 .str) (.pair (.sl 3 (.int .i64)) (.sl 82 (.sl 162 T_impl_Item))))))
@[reducible] def T_impl_Cluster : Ty := (.pair T_impl_Query (.pair (.sl 109 T_impl_Node) (.pair (.sl 9 .str) (.pair (.sl 3 (.int .i64)) (.sl 52 (.sl 92 T_impl_Item))))))
noncomputable def TT : Tab := ⟨lkT [(10, 5, [0, 1, 5]), (11, 5, [0, 1, 5]), (13, 5, [0, 1, 5]), (14, 5, [0, 3, 4]), (15, 5, [1, 3, 4]), (16, 3, [1, 3, 4]), (16, 6, [1, 3, 4, 5]), (18, 3, [0, 3, 4]), (19, 3, [0, 3, 4]), (20, 3, [0, 3, 4]), (21, 3, [0, 3, 4]), (24, 4, [0, 1, 5]), (25, 4, [0, 1, 5]), (26, 4, [0, 1, 5]), (27, 4, [0, 1, 5]), (28, 5, [0, 1, 5]), (29, 5, [0, 1, 5]), (33, 2, [1, 3]), (35, 3, [0, 3, 4]), (36, 3, [0, 3, 4]), (40, 5, [3, 10, 11, 12]), (41, 3, [3, 9, 10, 11]), (41, 6, [3, 5, 9, 10, 11, 16, 17, 18]), (42, 4, [0, 1, 5]), (43, 4, [0, 1, 5]), (49, 5, [0, 1, 5]), (52, 5, [0, 1, 5]), (53, 2, [0, 3]), (55, 2, [0, 1, 5]), (59, 3, [0, 3, 4]), (62, 3, [0, 3, 4]), (64, 4, [1, 10, 11, 12]), (70, 4, [0, 1, 5]), (73, 4, [0, 1, 5]), (74, 5, [0, 1, 5]), (78, 5, [0, 1, 5]), (79, 5, [0, 1, 5]), (81, 3, [0, 3, 4]), (83, 3, [0, 3, 4]), (85, 3, [0, 3, 4]), (86, 3, [0, 3, 4]), (89, 4, [8, 9, 10]), (93, 4, [0, 1, 5]), (95, 4, [0, 1, 5]), (97, 4, [0, 1, 5]), (98, 4, [0, 1, 5]), (108, 2, [0, 1, 9, 10, 11])], fun _ _ => none⟩
theorem bld0 : (Tryz.prog.info? 140).map (·.zero) = some (some (.agg #[.pointer none, .slice none 0 0])) := by kernel_rfl
theorem i_65 : RowOk Tryz.prog GT 140 5 65 .bldWrite := ⟨bldWrite _ rfl rfl rfl, enters_fn (by kernel_rfl)⟩
theorem i_66 : RowOk Tryz.prog GT 140 5 66 .bldString := ⟨bldString _ rfl rfl rfl, enters_fn (by kernel_rfl)⟩
@[reducible] def ps_strconv_Itoa : List Par := [⟨.val, false, .int .i64⟩]
@[reducible] def rs_strconv_Itoa : List (Bool × Ty) := [(false, .str)]
noncomputable def C_strconv_Itoa : TakD ps_strconv_Itoa → ValD ps_strconv_Itoa → Option (MutD ps_strconv_Itoa × ResD rs_strconv_Itoa) := CItoa
theorem s_strconv_Itoa : RowOk Tryz.prog GT 140 5 63 (.sig ⟨ps_strconv_Itoa, rs_strconv_Itoa, C_strconv_Itoa⟩) := sItoa
@[reducible] def ps_laws_szStringS : List Par := [⟨.val, false, (.sl 9 .str)⟩, ⟨.val, false, (.int .i64)⟩]
@[reducible] def rs_laws_szStringS : List (Bool × Ty) := [(false, (.int .i64))]
noncomputable def X_laws_szStringS : Ctx := ⟨Tryz.prog, GT, lkS [], 140, 5⟩
noncomputable def C_laws_szStringS : TakD ps_laws_szStringS → ValD ps_laws_szStringS → Option (MutD ps_laws_szStringS × ResD rs_laws_szStringS) := evF X_laws_szStringS TT 3 11 ps_laws_szStringS rs_laws_szStringS
noncomputable def L_laws_szStringS_5 (a : List (List UInt8)) (left : Int) (i : Int) : Option (MutD ps_laws_szStringS × ResD rs_laws_szStringS) := rsF X_laws_szStringS TT 3 11 ps_laws_szStringS rs_laws_szStringS 5 ⟨[(0, (.c (.bor .str a))), (1, (.c (.int .i64 left))), (5, (.c (.int .i64 i)))], [], [], []⟩
theorem e_laws_szStringS (a : List (List UInt8)) (left : Int) : C_laws_szStringS () (a, left, ()) =
  bif ltC (IntKind.i64.wrap (left - (↑(List.length a) : Int))) 0 then
  some ((), -1, ())
  else
  L_laws_szStringS_5 a (IntKind.i64.wrap (left - (↑(List.length a) : Int))) 0 := by
  kernel_rfl
theorem l_laws_szStringS_5 (a : List (List UInt8)) (left : Int) (i : Int) : L_laws_szStringS_5 a left i =
  bif ltC i (↑a.length : Int) then
  bif leC 0 i && ltC i (↑a.length : Int) then
  bif ltC (IntKind.i64.wrap (left - (↑(List.length (a.getD i.toNat [])) : Int))) 0 then
  some ((), -1, ())
  else
  L_laws_szStringS_5 a (IntKind.i64.wrap (left - (↑(List.length (a.getD i.toNat [])) : Int))) (IntKind.i64.wrap (i + 1))
  else
  none
  else
  some ((), left, ()) :=
  (rsF_eq X_laws_szStringS TT 3 11 ps_laws_szStringS rs_laws_szStringS 5 _).trans (by kernel_rfl)
theorem s_laws_szStringS : RowOk Tryz.prog GT 140 5 11 (.sig ⟨ps_laws_szStringS, rs_laws_szStringS, C_laws_szStringS⟩) := ⟨evF_sound (X := X_laws_szStringS) (tabOk bld0 trivial) TT 3 11 ps_laws_szStringS rs_laws_szStringS rfl, enters_fn (by kernel_rfl)⟩
@[reducible] def ps_laws_szAtom : List Par := [⟨.val, true, T_impl_Atom⟩, ⟨.val, false, (.int .i64)⟩]
@[reducible] def rs_laws_szAtom : List (Bool × Ty) := [(false, (.int .i64))]
noncomputable def X_laws_szAtom : Ctx := ⟨Tryz.prog, GT, lkS [], 140, 5⟩
noncomputable def C_laws_szAtom : TakD ps_laws_szAtom → ValD ps_laws_szAtom → Option (MutD ps_laws_szAtom × ResD rs_laws_szAtom) := evF X_laws_szAtom TT 3 46 ps_laws_szAtom rs_laws_szAtom
theorem e_laws_szAtom (a : T_impl_Atom.den) (left : Int) : C_laws_szAtom () (a, left, ()) =
  bif ltC (IntKind.i64.wrap (left - (↑(List.length a.fst) : Int))) 0 then
  some ((), -1, ())
  else
  bif ltC (IntKind.i64.wrap (IntKind.i64.wrap (left - (↑(List.length a.fst) : Int)) - (↑(List.length a.snd.fst) : Int))) 0 then
  some ((), -1, ())
  else
  bif ltC   (IntKind.i64.wrap     (IntKind.i64.wrap (IntKind.i64.wrap (left - (↑(List.length a.fst) : Int)) - (↑(List.length a.snd.fst) : Int)) -       (↑(List.length a.snd.snd) : Int)))   0 then
  some ((), -1, ())
  else
  some ((),   IntKind.i64.wrap     (IntKind.i64.wrap (IntKind.i64.wrap (left - (↑(List.length a.fst) : Int)) - (↑(List.length a.snd.fst) : Int)) -       (↑(List.length a.snd.snd) : Int)),   ()) := by
  kernel_rfl
theorem s_laws_szAtom : RowOk Tryz.prog GT 140 5 46 (.sig ⟨ps_laws_szAtom, rs_laws_szAtom, C_laws_szAtom⟩) := ⟨evF_sound (X := X_laws_szAtom) (tabOk bld0 trivial) TT 3 46 ps_laws_szAtom rs_laws_szAtom rfl, enters_fn (by kernel_rfl)⟩
@[reducible] def ps_laws_szAtomS : List Par := [⟨.val, false, (.sl 118 T_impl_Atom)⟩, ⟨.val, false, (.int .i64)⟩]
@[reducible] def rs_laws_szAtomS : List (Bool × Ty) := [(false, (.int .i64))]
noncomputable def X_laws_szAtomS : Ctx := ⟨Tryz.prog, GT, lkS [(46, .sig ⟨ps_laws_szAtom, rs_laws_szAtom, C_laws_szAtom⟩)], 140, 5⟩
noncomputable def C_laws_szAtomS : TakD ps_laws_szAtomS → ValD ps_laws_szAtomS → Option (MutD ps_laws_szAtomS × ResD rs_laws_szAtomS) := evF X_laws_szAtomS TT 3 28 ps_laws_szAtomS rs_laws_szAtomS
noncomputable def L_laws_szAtomS_5 (a : List (T_impl_Atom.den)) (left : Int) (i : Int) : Option (MutD ps_laws_szAtomS × ResD rs_laws_szAtomS) := rsF X_laws_szAtomS TT 3 28 ps_laws_szAtomS rs_laws_szAtomS 5 ⟨[(0, (.c (.bor T_impl_Atom a))), (1, (.c (.int .i64 left))), (5, (.c (.int .i64 i)))], [], [], []⟩
theorem e_laws_szAtomS (a : List (T_impl_Atom.den)) (left : Int) : C_laws_szAtomS () (a, left, ()) =
  bif ltC (IntKind.i64.wrap (left - (↑(List.length a) : Int))) 0 then
  some ((), -1, ())
  else
  L_laws_szAtomS_5 a (IntKind.i64.wrap (left - (↑(List.length a) : Int))) 0 := by
  kernel_rfl
theorem l_laws_szAtomS_5 (a : List (T_impl_Atom.den)) (left : Int) (i : Int) : L_laws_szAtomS_5 a left i =
  bif ltC i (↑a.length : Int) then
  bif leC 0 i && ltC i (↑a.length : Int) then
  Option.bind (C_laws_szAtom () (a.getD i.toNat T_impl_Atom.dflt, left, ())) fun c1 =>
  bif ltC c1.snd.fst 0 then
  some ((), -1, ())
  else
  L_laws_szAtomS_5 a c1.snd.fst (IntKind.i64.wrap (i + 1))
  else
  none
  else
  some ((), left, ()) :=
  (rsF_eq X_laws_szAtomS TT 3 28 ps_laws_szAtomS rs_laws_szAtomS 5 _).trans (by kernel_rfl)
theorem s_laws_szAtomS : RowOk Tryz.prog GT 140 5 28 (.sig ⟨ps_laws_szAtomS, rs_laws_szAtomS, C_laws_szAtomS⟩) := ⟨evF_sound (X := X_laws_szAtomS) (tabOk bld0 ⟨s_laws_szAtom, trivial⟩) TT 3 28 ps_laws_szAtomS rs_laws_szAtomS rfl, enters_fn (by kernel_rfl)⟩
@[reducible] def ps_laws_szFilter : List Par := [⟨.val, true, T_impl_Filter⟩, ⟨.val, false, (.int .i64)⟩]
@[reducible] def rs_laws_szFilter : List (Bool × Ty) := [(false, (.int .i64))]
noncomputable def X_laws_szFilter : Ctx := ⟨Tryz.prog, GT, lkS [], 140, 5⟩
noncomputable def C_laws_szFilter : TakD ps_laws_szFilter → ValD ps_laws_szFilter → Option (MutD ps_laws_szFilter × ResD rs_laws_szFilter) := evF X_laws_szFilter TT 3 47 ps_laws_szFilter rs_laws_szFilter
theorem e_laws_szFilter (a : T_impl_Filter.den) (left : Int) : C_laws_szFilter () (a, left, ()) =
  bif ltC (IntKind.i64.wrap (left - (↑(List.length a.fst) : Int))) 0 then
  some ((), -1, ())
  else
  bif ltC (IntKind.i64.wrap (IntKind.i64.wrap (left - (↑(List.length a.fst) : Int)) - (↑(List.length a.snd.snd.fst) : Int))) 0 then
  some ((), -1, ())
  else
  some ((), IntKind.i64.wrap (IntKind.i64.wrap (left - (↑(List.length a.fst) : Int)) - (↑(List.length a.snd.snd.fst) : Int)),   ()) := by
  kernel_rfl
theorem s_laws_szFilter : RowOk Tryz.prog GT 140 5 47 (.sig ⟨ps_laws_szFilter, rs_laws_szFilter, C_laws_szFilter⟩) := ⟨evF_sound (X := X_laws_szFilter) (tabOk bld0 trivial) TT 3 47 ps_laws_szFilter rs_laws_szFilter rfl, enters_fn (by kernel_rfl)⟩
@[reducible] def ps_laws_szFilterS : List Par := [⟨.val, false, (.sl 121 T_impl_Filter)⟩, ⟨.val, false, (.int .i64)⟩]
@[reducible] def rs_laws_szFilterS : List (Bool × Ty) := [(false, (.int .i64))]
noncomputable def X_laws_szFilterS : Ctx := ⟨Tryz.prog, GT, lkS [(47, .sig ⟨ps_laws_szFilter, rs_laws_szFilter, C_laws_szFilter⟩)], 140, 5⟩
noncomputable def C_laws_szFilterS : TakD ps_laws_szFilterS → ValD ps_laws_szFilterS → Option (MutD ps_laws_szFilterS × ResD rs_laws_szFilterS) := evF X_laws_szFilterS TT 3 29 ps_laws_szFilterS rs_laws_szFilterS
noncomputable def L_laws_szFilterS_5 (a : List (T_impl_Filter.den)) (left : Int) (i : Int) : Option (MutD ps_laws_szFilterS × ResD rs_laws_szFilterS) := rsF X_laws_szFilterS TT 3 29 ps_laws_szFilterS rs_laws_szFilterS 5 ⟨[(0, (.c (.bor T_impl_Filter a))), (1, (.c (.int .i64 left))), (5, (.c (.int .i64 i)))], [], [], []⟩
theorem e_laws_szFilterS (a : List (T_impl_Filter.den)) (left : Int) : C_laws_szFilterS () (a, left, ()) =
  bif ltC (IntKind.i64.wrap (left - (↑(List.length a) : Int))) 0 then
  some ((), -1, ())
  else
  L_laws_szFilterS_5 a (IntKind.i64.wrap (left - (↑(List.length a) : Int))) 0 := by
  kernel_rfl
theorem l_laws_szFilterS_5 (a : List (T_impl_Filter.den)) (left : Int) (i : Int) : L_laws_szFilterS_5 a left i =
  bif ltC i (↑a.length : Int) then
  bif leC 0 i && ltC i (↑a.length : Int) then
  Option.bind (C_laws_szFilter () (a.getD i.toNat T_impl_Filter.dflt, left, ())) fun c1 =>
  bif ltC c1.snd.fst 0 then
  some ((), -1, ())
  else
  L_laws_szFilterS_5 a c1.snd.fst (IntKind.i64.wrap (i + 1))
  else
  none
  else
  some ((), left, ()) :=
  (rsF_eq X_laws_szFilterS TT 3 29 ps_laws_szFilterS rs_laws_szFilterS 5 _).trans (by kernel_rfl)
theorem s_laws_szFilterS : RowOk Tryz.prog GT 140 5 29 (.sig ⟨ps_laws_szFilterS, rs_laws_szFilterS, C_laws_szFilterS⟩) := ⟨evF_sound (X := X_laws_szFilterS) (tabOk bld0 ⟨s_laws_szFilter, trivial⟩) TT 3 29 ps_laws_szFilterS rs_laws_szFilterS rfl, enters_fn (by kernel_rfl)⟩
@[reducible] def ps_laws_szQuery : List Par := [⟨.val, true, T_laws_Query⟩, ⟨.val, false, (.int .i64)⟩]
@[reducible] def rs_laws_szQuery : List (Bool × Ty) := [(false, (.int .i64))]
noncomputable def X_laws_szQuery : Ctx := ⟨Tryz.prog, GT, lkS [(11, .sig ⟨ps_laws_szStringS, rs_laws_szStringS, C_laws_szStringS⟩), (28, .sig ⟨ps_laws_szAtomS, rs_laws_szAtomS, C_laws_szAtomS⟩), (29, .sig ⟨ps_laws_szFilterS, rs_laws_szFilterS, C_laws_szFilterS⟩)], 140, 5⟩
noncomputable def C_laws_szQuery : TakD ps_laws_szQuery → ValD ps_laws_szQuery → Option (MutD ps_laws_szQuery × ResD rs_laws_szQuery) := evF X_laws_szQuery TT 3 9 ps_laws_szQuery rs_laws_szQuery
theorem e_laws_szQuery (a : T_laws_Query.den) (left : Int) : C_laws_szQuery () (a, left, ()) =
  Option.bind (C_laws_szStringS () (a.snd.fst, left, ())) fun c1 =>
  bif ltC c1.snd.fst 0 then
  some ((), -1, ())
  else
  Option.bind (C_laws_szAtomS () (a.snd.snd.fst, c1.snd.fst, ())) fun c2 =>
  bif ltC c2.snd.fst 0 then
  some ((), -1, ())
  else
  Option.bind (C_laws_szFilterS () (a.snd.snd.snd, c2.snd.fst, ())) fun c3 =>
  bif ltC c3.snd.fst 0 then
  some ((), -1, ())
  else
  some ((), c3.snd.fst, ()) := by
  kernel_rfl
theorem s_laws_szQuery : RowOk Tryz.prog GT 140 5 9 (.sig ⟨ps_laws_szQuery, rs_laws_szQuery, C_laws_szQuery⟩) := ⟨evF_sound (X := X_laws_szQuery) (tabOk bld0 ⟨s_laws_szStringS, s_laws_szAtomS, s_laws_szFilterS, trivial⟩) TT 3 9 ps_laws_szQuery rs_laws_szQuery rfl, enters_fn (by kernel_rfl)⟩
@[reducible] def ps_laws_szFile : List Par := [⟨.val, true, T_impl_File⟩, ⟨.val, false, (.int .i64)⟩]
@[reducible] def rs_laws_szFile : List (Bool × Ty) := [(false, (.int .i64))]
noncomputable def X_laws_szFile : Ctx := ⟨Tryz.prog, GT, lkS [], 140, 5⟩
noncomputable def C_laws_szFile : TakD ps_laws_szFile → ValD ps_laws_szFile → Option (MutD ps_laws_szFile × ResD rs_laws_szFile) := evF X_laws_szFile TT 3 100 ps_laws_szFile rs_laws_szFile
theorem e_laws_szFile (a : T_impl_File.den) (left : Int) : C_laws_szFile () (a, left, ()) =
  bif ltC (IntKind.i64.wrap (left - (↑(List.length a.fst) : Int))) 0 then
  some ((), -1, ())
  else
  bif ltC (IntKind.i64.wrap (IntKind.i64.wrap (left - (↑(List.length a.fst) : Int)) - (↑(List.length a.snd.fst) : Int))) 0 then
  some ((), -1, ())
  else
  some ((), IntKind.i64.wrap (IntKind.i64.wrap (left - (↑(List.length a.fst) : Int)) - (↑(List.length a.snd.fst) : Int)), ()) := by
  kernel_rfl
theorem s_laws_szFile : RowOk Tryz.prog GT 140 5 100 (.sig ⟨ps_laws_szFile, rs_laws_szFile, C_laws_szFile⟩) := ⟨evF_sound (X := X_laws_szFile) (tabOk bld0 trivial) TT 3 100 ps_laws_szFile rs_laws_szFile rfl, enters_fn (by kernel_rfl)⟩
@[reducible] def ps_laws_szFileS : List Par := [⟨.val, false, (.sl 182 T_impl_File)⟩, ⟨.val, false, (.int .i64)⟩]
@[reducible] def rs_laws_szFileS : List (Bool × Ty) := [(false, (.int .i64))]
noncomputable def X_laws_szFileS : Ctx := ⟨Tryz.prog, GT, lkS [(100, .sig ⟨ps_laws_szFile, rs_laws_szFile, C_laws_szFile⟩)], 140, 5⟩
noncomputable def C_laws_szFileS : TakD ps_laws_szFileS → ValD ps_laws_szFileS → Option (MutD ps_laws_szFileS × ResD rs_laws_szFileS) := evF X_laws_szFileS TT 3 74 ps_laws_szFileS rs_laws_szFileS
noncomputable def L_laws_szFileS_5 (a : List (T_impl_File.den)) (left : Int) (i : Int) : Option (MutD ps_laws_szFileS × ResD rs_laws_szFileS) := rsF X_laws_szFileS TT 3 74 ps_laws_szFileS rs_laws_szFileS 5 ⟨[(0, (.c (.bor T_impl_File a))), (1, (.c (.int .i64 left))), (5, (.c (.int .i64 i)))], [], [], []⟩
theorem e_laws_szFileS (a : List (T_impl_File.den)) (left : Int) : C_laws_szFileS () (a, left, ()) =
  bif ltC (IntKind.i64.wrap (left - (↑(List.length a) : Int))) 0 then
  some ((), -1, ())
  else
  L_laws_szFileS_5 a (IntKind.i64.wrap (left - (↑(List.length a) : Int))) 0 := by
  kernel_rfl
theorem l_laws_szFileS_5 (a : List (T_impl_File.den)) (left : Int) (i : Int) : L_laws_szFileS_5 a left i =
  bif ltC i (↑a.length : Int) then
  bif leC 0 i && ltC i (↑a.length : Int) then
  Option.bind (C_laws_szFile () (a.getD i.toNat T_impl_File.dflt, left, ())) fun c1 =>
  bif ltC c1.snd.fst 0 then
  some ((), -1, ())
  else
  L_laws_szFileS_5 a c1.snd.fst (IntKind.i64.wrap (i + 1))
  else
  none
  else
  some ((), left, ()) :=
  (rsF_eq X_laws_szFileS TT 3 74 ps_laws_szFileS rs_laws_szFileS 5 _).trans (by kernel_rfl)
theorem s_laws_szFileS : RowOk Tryz.prog GT 140 5 74 (.sig ⟨ps_laws_szFileS, rs_laws_szFileS, C_laws_szFileS⟩) := ⟨evF_sound (X := X_laws_szFileS) (tabOk bld0 ⟨s_laws_szFile, trivial⟩) TT 3 74 ps_laws_szFileS rs_laws_szFileS rfl, enters_fn (by kernel_rfl)⟩
@[reducible] def ps_laws_szDisk : List Par := [⟨.val, true, (.sl 182 T_impl_File)⟩, ⟨.val, false, (.int .i64)⟩]
@[reducible] def rs_laws_szDisk : List (Bool × Ty) := [(false, (.int .i64))]
noncomputable def X_laws_szDisk : Ctx := ⟨Tryz.prog, GT, lkS [(74, .sig ⟨ps_laws_szFileS, rs_laws_szFileS, C_laws_szFileS⟩)], 140, 5⟩
noncomputable def C_laws_szDisk : TakD ps_laws_szDisk → ValD ps_laws_szDisk → Option (MutD ps_laws_szDisk × ResD rs_laws_szDisk) := evF X_laws_szDisk TT 3 48 ps_laws_szDisk rs_laws_szDisk
theorem e_laws_szDisk (a : List (T_impl_File.den)) (left : Int) : C_laws_szDisk () (a, left, ()) =
  Option.bind (C_laws_szFileS () (a, left, ())) fun c1 =>
  bif ltC c1.snd.fst 0 then
  some ((), -1, ())
  else
  some ((), c1.snd.fst, ()) := by
  kernel_rfl
theorem s_laws_szDisk : RowOk Tryz.prog GT 140 5 48 (.sig ⟨ps_laws_szDisk, rs_laws_szDisk, C_laws_szDisk⟩) := ⟨evF_sound (X := X_laws_szDisk) (tabOk bld0 ⟨s_laws_szFileS, trivial⟩) TT 3 48 ps_laws_szDisk rs_laws_szDisk rfl, enters_fn (by kernel_rfl)⟩
@[reducible] def ps_laws_szLink : List Par := [⟨.val, true, T_impl_Link⟩, ⟨.val, false, (.int .i64)⟩]
@[reducible] def rs_laws_szLink : List (Bool × Ty) := [(false, (.int .i64))]
noncomputable def X_laws_szLink : Ctx := ⟨Tryz.prog, GT, lkS [(11, .sig ⟨ps_laws_szStringS, rs_laws_szStringS, C_laws_szStringS⟩)], 140, 5⟩
noncomputable def C_laws_szLink : TakD ps_laws_szLink → ValD ps_laws_szLink → Option (MutD ps_laws_szLink × ResD rs_laws_szLink) := evF X_laws_szLink TT 3 75 ps_laws_szLink rs_laws_szLink
theorem e_laws_szLink (a : T_impl_Link.den) (left : Int) : C_laws_szLink () (a, left, ()) =
  Option.bind (C_laws_szStringS () (a.fst, left, ())) fun c1 =>
  bif ltC c1.snd.fst 0 then
  some ((), -1, ())
  else
  some ((), c1.snd.fst, ()) := by
  kernel_rfl
theorem s_laws_szLink : RowOk Tryz.prog GT 140 5 75 (.sig ⟨ps_laws_szLink, rs_laws_szLink, C_laws_szLink⟩) := ⟨evF_sound (X := X_laws_szLink) (tabOk bld0 ⟨s_laws_szStringS, trivial⟩) TT 3 75 ps_laws_szLink rs_laws_szLink rfl, enters_fn (by kernel_rfl)⟩
@[reducible] def ps_laws_szLinkS : List Par := [⟨.val, false, (.sl 156 T_impl_Link)⟩, ⟨.val, false, (.int .i64)⟩]
@[reducible] def rs_laws_szLinkS : List (Bool × Ty) := [(false, (.int .i64))]
noncomputable def X_laws_szLinkS : Ctx := ⟨Tryz.prog, GT, lkS [(75, .sig ⟨ps_laws_szLink, rs_laws_szLink, C_laws_szLink⟩)], 140, 5⟩
noncomputable def C_laws_szLinkS : TakD ps_laws_szLinkS → ValD ps_laws_szLinkS → Option (MutD ps_laws_szLinkS × ResD rs_laws_szLinkS) := evF X_laws_szLinkS TT 3 49 ps_laws_szLinkS rs_laws_szLinkS
noncomputable def L_laws_szLinkS_5 (a : List (T_impl_Link.den)) (left : Int) (i : Int) : Option (MutD ps_laws_szLinkS × ResD rs_laws_szLinkS) := rsF X_laws_szLinkS TT 3 49 ps_laws_szLinkS rs_laws_szLinkS 5 ⟨[(0, (.c (.bor T_impl_Link a))), (1, (.c (.int .i64 left))), (5, (.c (.int .i64 i)))], [], [], []⟩
theorem e_laws_szLinkS (a : List (T_impl_Link.den)) (left : Int) : C_laws_szLinkS () (a, left, ()) =
  bif ltC (IntKind.i64.wrap (left - (↑(List.length a) : Int))) 0 then
  some ((), -1, ())
  else
  L_laws_szLinkS_5 a (IntKind.i64.wrap (left - (↑(List.length a) : Int))) 0 := by
  kernel_rfl
theorem l_laws_szLinkS_5 (a : List (T_impl_Link.den)) (left : Int) (i : Int) : L_laws_szLinkS_5 a left i =
  bif ltC i (↑a.length : Int) then
  bif leC 0 i && ltC i (↑a.length : Int) then
  Option.bind (C_laws_szLink () (a.getD i.toNat T_impl_Link.dflt, left, ())) fun c1 =>
  bif ltC c1.snd.fst 0 then
  some ((), -1, ())
  else
  L_laws_szLinkS_5 a c1.snd.fst (IntKind.i64.wrap (i + 1))
  else
  none
  else
  some ((), left, ()) :=
  (rsF_eq X_laws_szLinkS TT 3 49 ps_laws_szLinkS rs_laws_szLinkS 5 _).trans (by kernel_rfl)
theorem s_laws_szLinkS : RowOk Tryz.prog GT 140 5 49 (.sig ⟨ps_laws_szLinkS, rs_laws_szLinkS, C_laws_szLinkS⟩) := ⟨evF_sound (X := X_laws_szLinkS) (tabOk bld0 ⟨s_laws_szLink, trivial⟩) TT 3 49 ps_laws_szLinkS rs_laws_szLinkS rfl, enters_fn (by kernel_rfl)⟩
@[reducible] def ps_laws_szIntS : List Par := [⟨.val, false, (.sl 3 (.int .i64))⟩, ⟨.val, false, (.int .i64)⟩]
@[reducible] def rs_laws_szIntS : List (Bool × Ty) := [(false, (.int .i64))]
noncomputable def X_laws_szIntS : Ctx := ⟨Tryz.prog, GT, lkS [], 140, 5⟩
noncomputable def C_laws_szIntS : TakD ps_laws_szIntS → ValD ps_laws_szIntS → Option (MutD ps_laws_szIntS × ResD rs_laws_szIntS) := evF X_laws_szIntS TT 3 12 ps_laws_szIntS rs_laws_szIntS
theorem e_laws_szIntS (a : List (Int)) (left : Int) : C_laws_szIntS () (a, left, ()) =
  bif ltC (IntKind.i64.wrap (left - (↑(List.length a) : Int))) 0 then
  some ((), -1, ())
  else
  some ((), IntKind.i64.wrap (left - (↑(List.length a) : Int)), ()) := by
  kernel_rfl
theorem s_laws_szIntS : RowOk Tryz.prog GT 140 5 12 (.sig ⟨ps_laws_szIntS, rs_laws_szIntS, C_laws_szIntS⟩) := ⟨evF_sound (X := X_laws_szIntS) (tabOk bld0 trivial) TT 3 12 ps_laws_szIntS rs_laws_szIntS rfl, enters_fn (by kernel_rfl)⟩
@[reducible] def ps_laws_szWalkS : List Par := [⟨.val, false, (.sl 196 T_impl_Walk)⟩, ⟨.val, false, (.int .i64)⟩]
@[reducible] def rs_laws_szWalkS : List (Bool × Ty) := [(false, (.int .i64))]
noncomputable def X_laws_szWalkS : Ctx := ⟨Tryz.prog, GT, lkS [], 140, 5⟩
noncomputable def C_laws_szWalkS : TakD ps_laws_szWalkS → ValD ps_laws_szWalkS → Option (MutD ps_laws_szWalkS × ResD rs_laws_szWalkS) := evF X_laws_szWalkS TT 3 76 ps_laws_szWalkS rs_laws_szWalkS
theorem e_laws_szWalkS (a : List (T_impl_Walk.den)) (left : Int) : C_laws_szWalkS () (a, left, ()) =
  bif ltC (IntKind.i64.wrap (left - (↑(List.length a) : Int))) 0 then
  some ((), -1, ())
  else
  some ((), IntKind.i64.wrap (left - (↑(List.length a) : Int)), ()) := by
  kernel_rfl
theorem s_laws_szWalkS : RowOk Tryz.prog GT 140 5 76 (.sig ⟨ps_laws_szWalkS, rs_laws_szWalkS, C_laws_szWalkS⟩) := ⟨evF_sound (X := X_laws_szWalkS) (tabOk bld0 trivial) TT 3 76 ps_laws_szWalkS rs_laws_szWalkS rfl, enters_fn (by kernel_rfl)⟩
@[reducible] def ps_laws_szItem : List Par := [⟨.val, true, T_impl_Item⟩, ⟨.val, false, (.int .i64)⟩]
@[reducible] def rs_laws_szItem : List (Bool × Ty) := [(false, (.int .i64))]
noncomputable def X_laws_szItem : Ctx := ⟨Tryz.prog, GT, lkS [(12, .sig ⟨ps_laws_szIntS, rs_laws_szIntS, C_laws_szIntS⟩)], 140, 5⟩
noncomputable def C_laws_szItem : TakD ps_laws_szItem → ValD ps_laws_szItem → Option (MutD ps_laws_szItem × ResD rs_laws_szItem) := evF X_laws_szItem TT 3 80 ps_laws_szItem rs_laws_szItem
theorem e_laws_szItem (a : T_impl_Item.den) (left : Int) : C_laws_szItem () (a, left, ()) =
  Option.bind (C_laws_szIntS () (a.fst, left, ())) fun c1 =>
  bif ltC c1.snd.fst 0 then
  some ((), -1, ())
  else
  some ((), c1.snd.fst, ()) := by
  kernel_rfl
theorem s_laws_szItem : RowOk Tryz.prog GT 140 5 80 (.sig ⟨ps_laws_szItem, rs_laws_szItem, C_laws_szItem⟩) := ⟨evF_sound (X := X_laws_szItem) (tabOk bld0 ⟨s_laws_szIntS, trivial⟩) TT 3 80 ps_laws_szItem rs_laws_szItem rfl, enters_fn (by kernel_rfl)⟩
@[reducible] def ps_laws_szItemS : List Par := [⟨.val, false, (.sl 162 T_impl_Item)⟩, ⟨.val, false, (.int .i64)⟩]
@[reducible] def rs_laws_szItemS : List (Bool × Ty) := [(false, (.int .i64))]
noncomputable def X_laws_szItemS : Ctx := ⟨Tryz.prog, GT, lkS [(80, .sig ⟨ps_laws_szItem, rs_laws_szItem, C_laws_szItem⟩)], 140, 5⟩
noncomputable def C_laws_szItemS : TakD ps_laws_szItemS → ValD ps_laws_szItemS → Option (MutD ps_laws_szItemS × ResD rs_laws_szItemS) := evF X_laws_szItemS TT 3 52 ps_laws_szItemS rs_laws_szItemS
noncomputable def L_laws_szItemS_5 (a : List (T_impl_Item.den)) (left : Int) (i : Int) : Option (MutD ps_laws_szItemS × ResD rs_laws_szItemS) := rsF X_laws_szItemS TT 3 52 ps_laws_szItemS rs_laws_szItemS 5 ⟨[(0, (.c (.bor T_impl_Item a))), (1, (.c (.int .i64 left))), (5, (.c (.int .i64 i)))], [], [], []⟩
theorem e_laws_szItemS (a : List (T_impl_Item.den)) (left : Int) : C_laws_szItemS () (a, left, ()) =
  bif ltC (IntKind.i64.wrap (left - (↑(List.length a) : Int))) 0 then
  some ((), -1, ())
  else
  L_laws_szItemS_5 a (IntKind.i64.wrap (left - (↑(List.length a) : Int))) 0 := by
  kernel_rfl
theorem l_laws_szItemS_5 (a : List (T_impl_Item.den)) (left : Int) (i : Int) : L_laws_szItemS_5 a left i =
  bif ltC i (↑a.length : Int) then
  bif leC 0 i && ltC i (↑a.length : Int) then
  Option.bind (C_laws_szItem () (a.getD i.toNat T_impl_Item.dflt, left, ())) fun c1 =>
  bif ltC c1.snd.fst 0 then
  some ((), -1, ())
  else
  L_laws_szItemS_5 a c1.snd.fst (IntKind.i64.wrap (i + 1))
  else
  none
  else
  some ((), left, ()) :=
  (rsF_eq X_laws_szItemS TT 3 52 ps_laws_szItemS rs_laws_szItemS 5 _).trans (by kernel_rfl)
theorem s_laws_szItemS : RowOk Tryz.prog GT 140 5 52 (.sig ⟨ps_laws_szItemS, rs_laws_szItemS, C_laws_szItemS⟩) := ⟨evF_sound (X := X_laws_szItemS) (tabOk bld0 ⟨s_laws_szItem, trivial⟩) TT 3 52 ps_laws_szItemS rs_laws_szItemS rfl, enters_fn (by kernel_rfl)⟩
@[reducible] def ps_laws_szBag : List Par := [⟨.val, true, (.sl 162 T_impl_Item)⟩, ⟨.val, false, (.int .i64)⟩]
@[reducible] def rs_laws_szBag : List (Bool × Ty) := [(false, (.int .i64))]
noncomputable def X_laws_szBag : Ctx := ⟨Tryz.prog, GT, lkS [(52, .sig ⟨ps_laws_szItemS, rs_laws_szItemS, C_laws_szItemS⟩)], 140, 5⟩
noncomputable def C_laws_szBag : TakD ps_laws_szBag → ValD ps_laws_szBag → Option (MutD ps_laws_szBag × ResD rs_laws_szBag) := evF X_laws_szBag TT 3 31 ps_laws_szBag rs_laws_szBag
theorem e_laws_szBag (a : List (T_impl_Item.den)) (left : Int) : C_laws_szBag () (a, left, ()) =
  Option.bind (C_laws_szItemS () (a, left, ())) fun c1 =>
  bif ltC c1.snd.fst 0 then
  some ((), -1, ())
  else
  some ((), c1.snd.fst, ()) := by
  kernel_rfl
theorem s_laws_szBag : RowOk Tryz.prog GT 140 5 31 (.sig ⟨ps_laws_szBag, rs_laws_szBag, C_laws_szBag⟩) := ⟨evF_sound (X := X_laws_szBag) (tabOk bld0 ⟨s_laws_szItemS, trivial⟩) TT 3 31 ps_laws_szBag rs_laws_szBag rfl, enters_fn (by kernel_rfl)⟩
@[reducible] def ps_laws_szGot : List Par := [⟨.val, true, T_laws_Got⟩, ⟨.val, false, (.int .i64)⟩]
@[reducible] def rs_laws_szGot : List (Bool × Ty) := [(false, (.int .i64))]
noncomputable def X_laws_szGot : Ctx := ⟨Tryz.prog, GT, lkS [(31, .sig ⟨ps_laws_szBag, rs_laws_szBag, C_laws_szBag⟩)], 140, 5⟩
noncomputable def C_laws_szGot : TakD ps_laws_szGot → ValD ps_laws_szGot → Option (MutD ps_laws_szGot × ResD rs_laws_szGot) := evF X_laws_szGot TT 3 102 ps_laws_szGot rs_laws_szGot
theorem e_laws_szGot (a : T_laws_Got.den) (left : Int) : C_laws_szGot () (a, left, ()) =
  Option.bind (C_laws_szBag () (a.snd.snd, left, ())) fun c1 =>
  bif ltC c1.snd.fst 0 then
  some ((), -1, ())
  else
  some ((), c1.snd.fst, ()) := by
  kernel_rfl
theorem s_laws_szGot : RowOk Tryz.prog GT 140 5 102 (.sig ⟨ps_laws_szGot, rs_laws_szGot, C_laws_szGot⟩) := ⟨evF_sound (X := X_laws_szGot) (tabOk bld0 ⟨s_laws_szBag, trivial⟩) TT 3 102 ps_laws_szGot rs_laws_szGot rfl, enters_fn (by kernel_rfl)⟩
@[reducible] def ps_laws_szGotS : List Par := [⟨.val, false, (.sl 190 T_laws_Got)⟩, ⟨.val, false, (.int .i64)⟩]
@[reducible] def rs_laws_szGotS : List (Bool × Ty) := [(false, (.int .i64))]
noncomputable def X_laws_szGotS : Ctx := ⟨Tryz.prog, GT, lkS [(102, .sig ⟨ps_laws_szGot, rs_laws_szGot, C_laws_szGot⟩)], 140, 5⟩
noncomputable def C_laws_szGotS : TakD ps_laws_szGotS → ValD ps_laws_szGotS → Option (MutD ps_laws_szGotS × ResD rs_laws_szGotS) := evF X_laws_szGotS TT 3 79 ps_laws_szGotS rs_laws_szGotS
noncomputable def L_laws_szGotS_5 (a : List (T_laws_Got.den)) (left : Int) (i : Int) : Option (MutD ps_laws_szGotS × ResD rs_laws_szGotS) := rsF X_laws_szGotS TT 3 79 ps_laws_szGotS rs_laws_szGotS 5 ⟨[(0, (.c (.bor T_laws_Got a))), (1, (.c (.int .i64 left))), (5, (.c (.int .i64 i)))], [], [], []⟩
theorem e_laws_szGotS (a : List (T_laws_Got.den)) (left : Int) : C_laws_szGotS () (a, left, ()) =
  bif ltC (IntKind.i64.wrap (left - (↑(List.length a) : Int))) 0 then
  some ((), -1, ())
  else
  L_laws_szGotS_5 a (IntKind.i64.wrap (left - (↑(List.length a) : Int))) 0 := by
  kernel_rfl
theorem l_laws_szGotS_5 (a : List (T_laws_Got.den)) (left : Int) (i : Int) : L_laws_szGotS_5 a left i =
  bif ltC i (↑a.length : Int) then
  bif leC 0 i && ltC i (↑a.length : Int) then
  Option.bind (C_laws_szGot () (a.getD i.toNat T_laws_Got.dflt, left, ())) fun c1 =>
  bif ltC c1.snd.fst 0 then
  some ((), -1, ())
  else
  L_laws_szGotS_5 a c1.snd.fst (IntKind.i64.wrap (i + 1))
  else
  none
  else
  some ((), left, ()) :=
  (rsF_eq X_laws_szGotS TT 3 79 ps_laws_szGotS rs_laws_szGotS 5 _).trans (by kernel_rfl)
theorem s_laws_szGotS : RowOk Tryz.prog GT 140 5 79 (.sig ⟨ps_laws_szGotS, rs_laws_szGotS, C_laws_szGotS⟩) := ⟨evF_sound (X := X_laws_szGotS) (tabOk bld0 ⟨s_laws_szGot, trivial⟩) TT 3 79 ps_laws_szGotS rs_laws_szGotS rfl, enters_fn (by kernel_rfl)⟩
@[reducible] def ps_laws_szCell : List Par := [⟨.val, true, T_laws_Cell⟩, ⟨.val, false, (.int .i64)⟩]
@[reducible] def rs_laws_szCell : List (Bool × Ty) := [(false, (.int .i64))]
noncomputable def X_laws_szCell : Ctx := ⟨Tryz.prog, GT, lkS [(9, .sig ⟨ps_laws_szQuery, rs_laws_szQuery, C_laws_szQuery⟩), (12, .sig ⟨ps_laws_szIntS, rs_laws_szIntS, C_laws_szIntS⟩), (79, .sig ⟨ps_laws_szGotS, rs_laws_szGotS, C_laws_szGotS⟩)], 140, 5⟩
noncomputable def C_laws_szCell : TakD ps_laws_szCell → ValD ps_laws_szCell → Option (MutD ps_laws_szCell × ResD rs_laws_szCell) := evF X_laws_szCell TT 3 77 ps_laws_szCell rs_laws_szCell
theorem e_laws_szCell (a : T_laws_Cell.den) (left : Int) : C_laws_szCell () (a, left, ()) =
  Option.bind (C_laws_szQuery () (a.fst, left, ())) fun c1 =>
  bif ltC c1.snd.fst 0 then
  some ((), -1, ())
  else
  Option.bind (C_laws_szIntS () (a.snd.fst, c1.snd.fst, ())) fun c2 =>
  bif ltC c2.snd.fst 0 then
  some ((), -1, ())
  else
  Option.bind (C_laws_szGotS () (a.snd.snd.snd.snd, c2.snd.fst, ())) fun c3 =>
  bif ltC c3.snd.fst 0 then
  some ((), -1, ())
  else
  some ((), c3.snd.fst, ()) := by
  kernel_rfl
theorem s_laws_szCell : RowOk Tryz.prog GT 140 5 77 (.sig ⟨ps_laws_szCell, rs_laws_szCell, C_laws_szCell⟩) := ⟨evF_sound (X := X_laws_szCell) (tabOk bld0 ⟨s_laws_szQuery, s_laws_szIntS, s_laws_szGotS, trivial⟩) TT 3 77 ps_laws_szCell rs_laws_szCell rfl, enters_fn (by kernel_rfl)⟩
@[reducible] def ps_laws_szLetter : List Par := [⟨.val, true, T_laws_Letter⟩, ⟨.val, false, (.int .i64)⟩]
@[reducible] def rs_laws_szLetter : List (Bool × Ty) := [(false, (.int .i64))]
noncomputable def X_laws_szLetter : Ctx := ⟨Tryz.prog, GT, lkS [(76, .sig ⟨ps_laws_szWalkS, rs_laws_szWalkS, C_laws_szWalkS⟩)], 140, 5⟩
noncomputable def C_laws_szLetter : TakD ps_laws_szLetter → ValD ps_laws_szLetter → Option (MutD ps_laws_szLetter × ResD rs_laws_szLetter) := evF X_laws_szLetter TT 3 114 ps_laws_szLetter rs_laws_szLetter
theorem e_laws_szLetter (a : T_laws_Letter.den) (left : Int) : C_laws_szLetter () (a, left, ()) =
  Option.bind (C_laws_szWalkS () (a.snd.snd.snd.snd.fst, left, ())) fun c1 =>
  bif ltC c1.snd.fst 0 then
  some ((), -1, ())
  else
  bif ltC (IntKind.i64.wrap (c1.snd.fst - (↑(List.length a.snd.snd.snd.snd.snd) : Int))) 0 then
  some ((), -1, ())
  else
  some ((), IntKind.i64.wrap (c1.snd.fst - (↑(List.length a.snd.snd.snd.snd.snd) : Int)), ()) := by
  kernel_rfl
theorem s_laws_szLetter : RowOk Tryz.prog GT 140 5 114 (.sig ⟨ps_laws_szLetter, rs_laws_szLetter, C_laws_szLetter⟩) := ⟨evF_sound (X := X_laws_szLetter) (tabOk bld0 ⟨s_laws_szWalkS, trivial⟩) TT 3 114 ps_laws_szLetter rs_laws_szLetter rfl, enters_fn (by kernel_rfl)⟩
@[reducible] def ps_laws_szMail : List Par := [⟨.val, true, T_laws_Mail⟩, ⟨.val, false, (.int .i64)⟩]
@[reducible] def rs_laws_szMail : List (Bool × Ty) := [(false, (.int .i64))]
noncomputable def X_laws_szMail : Ctx := ⟨Tryz.prog, GT, lkS [(114, .sig ⟨ps_laws_szLetter, rs_laws_szLetter, C_laws_szLetter⟩)], 140, 5⟩
noncomputable def C_laws_szMail : TakD ps_laws_szMail → ValD ps_laws_szMail → Option (MutD ps_laws_szMail × ResD rs_laws_szMail) := evF X_laws_szMail TT 3 101 ps_laws_szMail rs_laws_szMail
theorem e_laws_szMail (a : T_laws_Mail.den) (left : Int) : C_laws_szMail () (a, left, ()) =
  Option.bind (C_laws_szLetter () (a.snd, left, ())) fun c1 =>
  bif ltC c1.snd.fst 0 then
  some ((), -1, ())
  else
  some ((), c1.snd.fst, ()) := by
  kernel_rfl
theorem s_laws_szMail : RowOk Tryz.prog GT 140 5 101 (.sig ⟨ps_laws_szMail, rs_laws_szMail, C_laws_szMail⟩) := ⟨evF_sound (X := X_laws_szMail) (tabOk bld0 ⟨s_laws_szLetter, trivial⟩) TT 3 101 ps_laws_szMail rs_laws_szMail rfl, enters_fn (by kernel_rfl)⟩
@[reducible] def ps_laws_szMailS : List Par := [⟨.val, false, (.sl 187 T_laws_Mail)⟩, ⟨.val, false, (.int .i64)⟩]
@[reducible] def rs_laws_szMailS : List (Bool × Ty) := [(false, (.int .i64))]
noncomputable def X_laws_szMailS : Ctx := ⟨Tryz.prog, GT, lkS [(101, .sig ⟨ps_laws_szMail, rs_laws_szMail, C_laws_szMail⟩)], 140, 5⟩
noncomputable def C_laws_szMailS : TakD ps_laws_szMailS → ValD ps_laws_szMailS → Option (MutD ps_laws_szMailS × ResD rs_laws_szMailS) := evF X_laws_szMailS TT 3 78 ps_laws_szMailS rs_laws_szMailS
noncomputable def L_laws_szMailS_5 (a : List (T_laws_Mail.den)) (left : Int) (i : Int) : Option (MutD ps_laws_szMailS × ResD rs_laws_szMailS) := rsF X_laws_szMailS TT 3 78 ps_laws_szMailS rs_laws_szMailS 5 ⟨[(0, (.c (.bor T_laws_Mail a))), (1, (.c (.int .i64 left))), (5, (.c (.int .i64 i)))], [], [], []⟩
theorem e_laws_szMailS (a : List (T_laws_Mail.den)) (left : Int) : C_laws_szMailS () (a, left, ()) =
  bif ltC (IntKind.i64.wrap (left - (↑(List.length a) : Int))) 0 then
  some ((), -1, ())
  else
  L_laws_szMailS_5 a (IntKind.i64.wrap (left - (↑(List.length a) : Int))) 0 := by
  kernel_rfl
theorem l_laws_szMailS_5 (a : List (T_laws_Mail.den)) (left : Int) (i : Int) : L_laws_szMailS_5 a left i =
  bif ltC i (↑a.length : Int) then
  bif leC 0 i && ltC i (↑a.length : Int) then
  Option.bind (C_laws_szMail () (a.getD i.toNat T_laws_Mail.dflt, left, ())) fun c1 =>
  bif ltC c1.snd.fst 0 then
  some ((), -1, ())
  else
  L_laws_szMailS_5 a c1.snd.fst (IntKind.i64.wrap (i + 1))
  else
  none
  else
  some ((), left, ()) :=
  (rsF_eq X_laws_szMailS TT 3 78 ps_laws_szMailS rs_laws_szMailS 5 _).trans (by kernel_rfl)
theorem s_laws_szMailS : RowOk Tryz.prog GT 140 5 78 (.sig ⟨ps_laws_szMailS, rs_laws_szMailS, C_laws_szMailS⟩) := ⟨evF_sound (X := X_laws_szMailS) (tabOk bld0 ⟨s_laws_szMail, trivial⟩) TT 3 78 ps_laws_szMailS rs_laws_szMailS rfl, enters_fn (by kernel_rfl)⟩
@[reducible] def ps_laws_szWork : List Par := [⟨.val, true, T_laws_Work⟩, ⟨.val, false, (.int .i64)⟩]
@[reducible] def rs_laws_szWork : List (Bool × Ty) := [(false, (.int .i64))]
noncomputable def X_laws_szWork : Ctx := ⟨Tryz.prog, GT, lkS [(9, .sig ⟨ps_laws_szQuery, rs_laws_szQuery, C_laws_szQuery⟩), (12, .sig ⟨ps_laws_szIntS, rs_laws_szIntS, C_laws_szIntS⟩), (76, .sig ⟨ps_laws_szWalkS, rs_laws_szWalkS, C_laws_szWalkS⟩), (77, .sig ⟨ps_laws_szCell, rs_laws_szCell, C_laws_szCell⟩), (78, .sig ⟨ps_laws_szMailS, rs_laws_szMailS, C_laws_szMailS⟩)], 140, 5⟩
noncomputable def C_laws_szWork : TakD ps_laws_szWork → ValD ps_laws_szWork → Option (MutD ps_laws_szWork × ResD rs_laws_szWork) := evF X_laws_szWork TT 3 50 ps_laws_szWork rs_laws_szWork
theorem e_laws_szWork (a : T_laws_Work.den) (left : Int) : C_laws_szWork () (a, left, ()) =
  Option.bind (C_laws_szQuery () (a.snd.fst, left, ())) fun c1 =>
  bif ltC c1.snd.fst 0 then
  some ((), -1, ())
  else
  Option.bind (C_laws_szIntS () (a.snd.snd.fst, c1.snd.fst, ())) fun c2 =>
  bif ltC c2.snd.fst 0 then
  some ((), -1, ())
  else
  Option.bind (C_laws_szWalkS () (a.snd.snd.snd.snd.fst, c2.snd.fst, ())) fun c3 =>
  bif ltC c3.snd.fst 0 then
  some ((), -1, ())
  else
  Option.bind (C_laws_szCell () (a.snd.snd.snd.snd.snd.snd.snd.snd.snd.snd.snd.fst, c3.snd.fst, ())) fun c4 =>
  bif ltC c4.snd.fst 0 then
  some ((), -1, ())
  else
  Option.bind (C_laws_szMailS () (a.snd.snd.snd.snd.snd.snd.snd.snd.snd.snd.snd.snd.snd, c4.snd.fst, ())) fun c5 =>
  bif ltC c5.snd.fst 0 then
  some ((), -1, ())
  else
  some ((), c5.snd.fst, ()) := by
  kernel_rfl
theorem s_laws_szWork : RowOk Tryz.prog GT 140 5 50 (.sig ⟨ps_laws_szWork, rs_laws_szWork, C_laws_szWork⟩) := ⟨evF_sound (X := X_laws_szWork) (tabOk bld0 ⟨s_laws_szQuery, s_laws_szIntS, s_laws_szWalkS, s_laws_szCell, s_laws_szMailS, trivial⟩) TT 3 50 ps_laws_szWork rs_laws_szWork rfl, enters_fn (by kernel_rfl)⟩
@[reducible] def ps_laws_szAsk : List Par := [⟨.val, true, T_laws_Ask⟩, ⟨.val, false, (.int .i64)⟩]
@[reducible] def rs_laws_szAsk : List (Bool × Ty) := [(false, (.int .i64))]
noncomputable def X_laws_szAsk : Ctx := ⟨Tryz.prog, GT, lkS [(9, .sig ⟨ps_laws_szQuery, rs_laws_szQuery, C_laws_szQuery⟩), (12, .sig ⟨ps_laws_szIntS, rs_laws_szIntS, C_laws_szIntS⟩), (31, .sig ⟨ps_laws_szBag, rs_laws_szBag, C_laws_szBag⟩), (79, .sig ⟨ps_laws_szGotS, rs_laws_szGotS, C_laws_szGotS⟩)], 140, 5⟩
noncomputable def C_laws_szAsk : TakD ps_laws_szAsk → ValD ps_laws_szAsk → Option (MutD ps_laws_szAsk × ResD rs_laws_szAsk) := evF X_laws_szAsk TT 3 51 ps_laws_szAsk rs_laws_szAsk
theorem e_laws_szAsk (a : T_laws_Ask.den) (left : Int) : C_laws_szAsk () (a, left, ()) =
  Option.bind (C_laws_szQuery () (a.snd.fst, left, ())) fun c1 =>
  bif ltC c1.snd.fst 0 then
  some ((), -1, ())
  else
  Option.bind (C_laws_szIntS () (a.snd.snd.fst, c1.snd.fst, ())) fun c2 =>
  bif ltC c2.snd.fst 0 then
  some ((), -1, ())
  else
  Option.bind (C_laws_szGotS () (a.snd.snd.snd.snd.fst, c2.snd.fst, ())) fun c3 =>
  bif ltC c3.snd.fst 0 then
  some ((), -1, ())
  else
  Option.bind (C_laws_szBag () (a.snd.snd.snd.snd.snd.snd, c3.snd.fst, ())) fun c4 =>
  bif ltC c4.snd.fst 0 then
  some ((), -1, ())
  else
  some ((), c4.snd.fst, ()) := by
  kernel_rfl
theorem s_laws_szAsk : RowOk Tryz.prog GT 140 5 51 (.sig ⟨ps_laws_szAsk, rs_laws_szAsk, C_laws_szAsk⟩) := ⟨evF_sound (X := X_laws_szAsk) (tabOk bld0 ⟨s_laws_szQuery, s_laws_szIntS, s_laws_szBag, s_laws_szGotS, trivial⟩) TT 3 51 ps_laws_szAsk rs_laws_szAsk rfl, enters_fn (by kernel_rfl)⟩
@[reducible] def ps_laws_szNode : List Par := [⟨.val, true, T_laws_Node⟩, ⟨.val, false, (.int .i64)⟩]
@[reducible] def rs_laws_szNode : List (Bool × Ty) := [(false, (.int .i64))]
noncomputable def X_laws_szNode : Ctx := ⟨Tryz.prog, GT, lkS [(48, .sig ⟨ps_laws_szDisk, rs_laws_szDisk, C_laws_szDisk⟩), (49, .sig ⟨ps_laws_szLinkS, rs_laws_szLinkS, C_laws_szLinkS⟩), (50, .sig ⟨ps_laws_szWork, rs_laws_szWork, C_laws_szWork⟩), (51, .sig ⟨ps_laws_szAsk, rs_laws_szAsk, C_laws_szAsk⟩)], 140, 5⟩
noncomputable def C_laws_szNode : TakD ps_laws_szNode → ValD ps_laws_szNode → Option (MutD ps_laws_szNode × ResD rs_laws_szNode) := evF X_laws_szNode TT 3 30 ps_laws_szNode rs_laws_szNode
theorem e_laws_szNode (a : T_laws_Node.den) (left : Int) : C_laws_szNode () (a, left, ()) =
  Option.bind (C_laws_szDisk () (a.snd.snd.fst, left, ())) fun c1 =>
  bif ltC c1.snd.fst 0 then
  some ((), -1, ())
  else
  Option.bind (C_laws_szLinkS () (a.snd.snd.snd.snd.snd.fst, c1.snd.fst, ())) fun c2 =>
  bif ltC c2.snd.fst 0 then
  some ((), -1, ())
  else
  Option.bind (C_laws_szWork () (a.snd.snd.snd.snd.snd.snd.fst, c2.snd.fst, ())) fun c3 =>
  bif ltC c3.snd.fst 0 then
  some ((), -1, ())
  else
  Option.bind (C_laws_szAsk () (a.snd.snd.snd.snd.snd.snd.snd, c3.snd.fst, ())) fun c4 =>
  bif ltC c4.snd.fst 0 then
  some ((), -1, ())
  else
  some ((), c4.snd.fst, ()) := by
  kernel_rfl
theorem s_laws_szNode : RowOk Tryz.prog GT 140 5 30 (.sig ⟨ps_laws_szNode, rs_laws_szNode, C_laws_szNode⟩) := ⟨evF_sound (X := X_laws_szNode) (tabOk bld0 ⟨s_laws_szDisk, s_laws_szLinkS, s_laws_szWork, s_laws_szAsk, trivial⟩) TT 3 30 ps_laws_szNode rs_laws_szNode rfl, enters_fn (by kernel_rfl)⟩
@[reducible] def ps_laws_szNodeS : List Par := [⟨.val, false, (.sl 86 T_laws_Node)⟩, ⟨.val, false, (.int .i64)⟩]
@[reducible] def rs_laws_szNodeS : List (Bool × Ty) := [(false, (.int .i64))]
noncomputable def X_laws_szNodeS : Ctx := ⟨Tryz.prog, GT, lkS [(30, .sig ⟨ps_laws_szNode, rs_laws_szNode, C_laws_szNode⟩)], 140, 5⟩
noncomputable def C_laws_szNodeS : TakD ps_laws_szNodeS → ValD ps_laws_szNodeS → Option (MutD ps_laws_szNodeS × ResD rs_laws_szNodeS) := evF X_laws_szNodeS TT 3 10 ps_laws_szNodeS rs_laws_szNodeS
noncomputable def L_laws_szNodeS_5 (a : List (T_laws_Node.den)) (left : Int) (i : Int) : Option (MutD ps_laws_szNodeS × ResD rs_laws_szNodeS) := rsF X_laws_szNodeS TT 3 10 ps_laws_szNodeS rs_laws_szNodeS 5 ⟨[(0, (.c (.bor T_laws_Node a))), (1, (.c (.int .i64 left))), (5, (.c (.int .i64 i)))], [], [], []⟩
theorem e_laws_szNodeS (a : List (T_laws_Node.den)) (left : Int) : C_laws_szNodeS () (a, left, ()) =
  bif ltC (IntKind.i64.wrap (left - (↑(List.length a) : Int))) 0 then
  some ((), -1, ())
  else
  L_laws_szNodeS_5 a (IntKind.i64.wrap (left - (↑(List.length a) : Int))) 0 := by
  kernel_rfl
theorem l_laws_szNodeS_5 (a : List (T_laws_Node.den)) (left : Int) (i : Int) : L_laws_szNodeS_5 a left i =
  bif ltC i (↑a.length : Int) then
  bif leC 0 i && ltC i (↑a.length : Int) then
  Option.bind (C_laws_szNode () (a.getD i.toNat T_laws_Node.dflt, left, ())) fun c1 =>
  bif ltC c1.snd.fst 0 then
  some ((), -1, ())
  else
  L_laws_szNodeS_5 a c1.snd.fst (IntKind.i64.wrap (i + 1))
  else
  none
  else
  some ((), left, ()) :=
  (rsF_eq X_laws_szNodeS TT 3 10 ps_laws_szNodeS rs_laws_szNodeS 5 _).trans (by kernel_rfl)
theorem s_laws_szNodeS : RowOk Tryz.prog GT 140 5 10 (.sig ⟨ps_laws_szNodeS, rs_laws_szNodeS, C_laws_szNodeS⟩) := ⟨evF_sound (X := X_laws_szNodeS) (tabOk bld0 ⟨s_laws_szNode, trivial⟩) TT 3 10 ps_laws_szNodeS rs_laws_szNodeS rfl, enters_fn (by kernel_rfl)⟩
@[reducible] def ps_laws_szBagS : List Par := [⟨.val, false, (.sl 82 (.sl 162 T_impl_Item))⟩, ⟨.val, false, (.int .i64)⟩]
@[reducible] def rs_laws_szBagS : List (Bool × Ty) := [(false, (.int .i64))]
noncomputable def X_laws_szBagS : Ctx := ⟨Tryz.prog, GT, lkS [(31, .sig ⟨ps_laws_szBag, rs_laws_szBag, C_laws_szBag⟩)], 140, 5⟩
noncomputable def C_laws_szBagS : TakD ps_laws_szBagS → ValD ps_laws_szBagS → Option (MutD ps_laws_szBagS × ResD rs_laws_szBagS) := evF X_laws_szBagS TT 3 13 ps_laws_szBagS rs_laws_szBagS
noncomputable def L_laws_szBagS_5 (a : List (List (T_impl_Item.den))) (left : Int) (i : Int) : Option (MutD ps_laws_szBagS × ResD rs_laws_szBagS) := rsF X_laws_szBagS TT 3 13 ps_laws_szBagS rs_laws_szBagS 5 ⟨[(0, (.c (.bor (.sl 162 T_impl_Item) a))), (1, (.c (.int .i64 left))), (5, (.c (.int .i64 i)))], [], [], []⟩
theorem e_laws_szBagS (a : List (List (T_impl_Item.den))) (left : Int) : C_laws_szBagS () (a, left, ()) =
  bif ltC (IntKind.i64.wrap (left - (↑(List.length a) : Int))) 0 then
  some ((), -1, ())
  else
  L_laws_szBagS_5 a (IntKind.i64.wrap (left - (↑(List.length a) : Int))) 0 := by
  kernel_rfl
theorem l_laws_szBagS_5 (a : List (List (T_impl_Item.den))) (left : Int) (i : Int) : L_laws_szBagS_5 a left i =
  bif ltC i (↑a.length : Int) then
  bif leC 0 i && ltC i (↑a.length : Int) then
  Option.bind (C_laws_szBag () (a.getD i.toNat [], left, ())) fun c1 =>
  bif ltC c1.snd.fst 0 then
  some ((), -1, ())
  else
  L_laws_szBagS_5 a c1.snd.fst (IntKind.i64.wrap (i + 1))
  else
  none
  else
  some ((), left, ()) :=
  (rsF_eq X_laws_szBagS TT 3 13 ps_laws_szBagS rs_laws_szBagS 5 _).trans (by kernel_rfl)
theorem s_laws_szBagS : RowOk Tryz.prog GT 140 5 13 (.sig ⟨ps_laws_szBagS, rs_laws_szBagS, C_laws_szBagS⟩) := ⟨evF_sound (X := X_laws_szBagS) (tabOk bld0 ⟨s_laws_szBag, trivial⟩) TT 3 13 ps_laws_szBagS rs_laws_szBagS rfl, enters_fn (by kernel_rfl)⟩
@[reducible] def ps_laws_szCluster : List Par := [⟨.val, true, T_laws_Cluster⟩, ⟨.val, false, (.int .i64)⟩]
@[reducible] def rs_laws_szCluster : List (Bool × Ty) := [(false, (.int .i64))]
noncomputable def X_laws_szCluster : Ctx := ⟨Tryz.prog, GT, lkS [(9, .sig ⟨ps_laws_szQuery, rs_laws_szQuery, C_laws_szQuery⟩), (10, .sig ⟨ps_laws_szNodeS, rs_laws_szNodeS, C_laws_szNodeS⟩), (11, .sig ⟨ps_laws_szStringS, rs_laws_szStringS, C_laws_szStringS⟩), (12, .sig ⟨ps_laws_szIntS, rs_laws_szIntS, C_laws_szIntS⟩), (13, .sig ⟨ps_laws_szBagS, rs_laws_szBagS, C_laws_szBagS⟩)], 140, 5⟩
noncomputable def C_laws_szCluster : TakD ps_laws_szCluster → ValD ps_laws_szCluster → Option (MutD ps_laws_szCluster × ResD rs_laws_szCluster) := evF X_laws_szCluster TT 3 4 ps_laws_szCluster rs_laws_szCluster
theorem e_laws_szCluster (a : T_laws_Cluster.den) (left : Int) : C_laws_szCluster () (a, left, ()) =
  Option.bind (C_laws_szQuery () (a.fst, left, ())) fun c1 =>
  bif ltC c1.snd.fst 0 then
  some ((), -1, ())
  else
  Option.bind (C_laws_szNodeS () (a.snd.fst, c1.snd.fst, ())) fun c2 =>
  bif ltC c2.snd.fst 0 then
  some ((), -1, ())
  else
  Option.bind (C_laws_szStringS () (a.snd.snd.fst, c2.snd.fst, ())) fun c3 =>
  bif ltC c3.snd.fst 0 then
  some ((), -1, ())
  else
  Option.bind (C_laws_szIntS () (a.snd.snd.snd.fst, c3.snd.fst, ())) fun c4 =>
  bif ltC c4.snd.fst 0 then
  some ((), -1, ())
  else
  Option.bind (C_laws_szBagS () (a.snd.snd.snd.snd, c4.snd.fst, ())) fun c5 =>
  bif ltC c5.snd.fst 0 then
  some ((), -1, ())
  else
  some ((), c5.snd.fst, ()) := by
  kernel_rfl
theorem s_laws_szCluster : RowOk Tryz.prog GT 140 5 4 (.sig ⟨ps_laws_szCluster, rs_laws_szCluster, C_laws_szCluster⟩) := ⟨evF_sound (X := X_laws_szCluster) (tabOk bld0 ⟨s_laws_szQuery, s_laws_szNodeS, s_laws_szStringS, s_laws_szIntS, s_laws_szBagS, trivial⟩) TT 3 4 ps_laws_szCluster rs_laws_szCluster rfl, enters_fn (by kernel_rfl)⟩
@[reducible] def ps_spec_l01Figure : List Par := [⟨.val, false, (.int .i64)⟩]
@[reducible] def rs_spec_l01Figure : List (Bool × Ty) := [(false, (.int .u8))]
noncomputable def X_spec_l01Figure : Ctx := ⟨Tryz.prog, GT, lkS [], 140, 5⟩
noncomputable def C_spec_l01Figure : TakD ps_spec_l01Figure → ValD ps_spec_l01Figure → Option (MutD ps_spec_l01Figure × ResD rs_spec_l01Figure) := evF X_spec_l01Figure TT 3 32 ps_spec_l01Figure rs_spec_l01Figure
theorem e_spec_l01Figure (x : Int) : C_spec_l01Figure () (x, ()) =
  bif ltC x 10 then
  some ((), IntKind.u8.wrap (IntKind.i64.wrap (48 + x)), ())
  else
  some ((), IntKind.u8.wrap (IntKind.i64.wrap (IntKind.i64.wrap (97 + x) - 10)), ()) := by
  kernel_rfl
theorem s_spec_l01Figure : RowOk Tryz.prog GT 140 5 32 (.sig ⟨ps_spec_l01Figure, rs_spec_l01Figure, C_spec_l01Figure⟩) := ⟨evF_sound (X := X_spec_l01Figure) (tabOk bld0 trivial) TT 3 32 ps_spec_l01Figure rs_spec_l01Figure rfl, enters_fn (by kernel_rfl)⟩
@[reducible] def ps_spec_Decimal : List Par := [⟨.val, false, (.int .i64)⟩]
@[reducible] def rs_spec_Decimal : List (Bool × Ty) := [(false, .str)]
noncomputable def X_spec_Decimal : Ctx := ⟨Tryz.prog, GT, lkS [(32, .sig ⟨ps_spec_l01Figure, rs_spec_l01Figure, C_spec_l01Figure⟩)], 140, 5⟩
noncomputable def C_spec_Decimal : TakD ps_spec_Decimal → ValD ps_spec_Decimal → Option (MutD ps_spec_Decimal × ResD rs_spec_Decimal) := evF X_spec_Decimal TT 3 14 ps_spec_Decimal rs_spec_Decimal
noncomputable def L_spec_Decimal_5 (n : Int) (below : Bool) (s : List UInt8) : Option (MutD ps_spec_Decimal × ResD rs_spec_Decimal) := rsF X_spec_Decimal TT 3 14 ps_spec_Decimal rs_spec_Decimal 5 ⟨[(0, (.c (.int .i64 n))), (3, (.c (.bool below))), (4, (.c (.str s)))], [], [], []⟩
theorem e_spec_Decimal (n : Int) : C_spec_Decimal () (n, ()) =
  bif n == 0 then
  some ((), [48], ())
  else
  L_spec_Decimal_5 n (ltC n 0) [] := by
  kernel_rfl
theorem l_spec_Decimal_5 (n : Int) (below : Bool) (s : List UInt8) : L_spec_Decimal_5 n below s =
  bif n != 0 then
  bif ltC (n.tmod 10) 0 then
  Option.bind (C_spec_l01Figure () (IntKind.i64.wrap (0 - n.tmod 10), ())) fun c1 =>
  bif leC (↑((List.map (fun n => UInt8.ofNat n.toNat) [c1.snd.fst]).length + s.length) : Int) 9223372036854775807 then
  L_spec_Decimal_5 (IntKind.i64.wrap (n.tdiv 10)) below (List.map (fun n => UInt8.ofNat n.toNat) [c1.snd.fst] ++ s)
  else
  none
  else
  Option.bind (C_spec_l01Figure () (n.tmod 10, ())) fun c2 =>
  bif leC (↑((List.map (fun n => UInt8.ofNat n.toNat) [c2.snd.fst]).length + s.length) : Int) 9223372036854775807 then
  L_spec_Decimal_5 (IntKind.i64.wrap (n.tdiv 10)) below (List.map (fun n => UInt8.ofNat n.toNat) [c2.snd.fst] ++ s)
  else
  none
  else
  bif below then
  bif leC (↑([45].length + s.length) : Int) 9223372036854775807 then
  some ((), [45] ++ s, ())
  else
  none
  else
  some ((), s, ()) :=
  (rsF_eq X_spec_Decimal TT 3 14 ps_spec_Decimal rs_spec_Decimal 5 _).trans (by kernel_rfl)
theorem s_spec_Decimal : RowOk Tryz.prog GT 140 5 14 (.sig ⟨ps_spec_Decimal, rs_spec_Decimal, C_spec_Decimal⟩) := ⟨evF_sound (X := X_spec_Decimal) (tabOk bld0 ⟨s_spec_l01Figure, trivial⟩) TT 3 14 ps_spec_Decimal rs_spec_Decimal rfl, enters_fn (by kernel_rfl)⟩
@[reducible] def ps_spec_l01In : List Par := [⟨.val, false, (.int .i64)⟩, ⟨.val, false, (.int .i64)⟩, ⟨.val, false, (.int .i64)⟩]
@[reducible] def rs_spec_l01In : List (Bool × Ty) := [(false, .bool)]
noncomputable def X_spec_l01In : Ctx := ⟨Tryz.prog, GT, lkS [], 140, 5⟩
noncomputable def C_spec_l01In : TakD ps_spec_l01In → ValD ps_spec_l01In → Option (MutD ps_spec_l01In × ResD rs_spec_l01In) := evF X_spec_l01In TT 3 54 ps_spec_l01In rs_spec_l01In
theorem e_spec_l01In (x : Int) (least : Int) (most : Int) : C_spec_l01In () (x, least, most, ()) =
  bif leC least x then
  some ((), leC x most, ())
  else
  some ((), false, ()) := by
  kernel_rfl
theorem s_spec_l01In : RowOk Tryz.prog GT 140 5 54 (.sig ⟨ps_spec_l01In, rs_spec_l01In, C_spec_l01In⟩) := ⟨evF_sound (X := X_spec_l01In) (tabOk bld0 trivial) TT 3 54 ps_spec_l01In rs_spec_l01In rfl, enters_fn (by kernel_rfl)⟩
@[reducible] def ps_spec_l03Row : List Par := [⟨.val, false, (.sl 3 (.int .i64))⟩]
@[reducible] def rs_spec_l03Row : List (Bool × Ty) := [(false, .bool)]
noncomputable def X_spec_l03Row : Ctx := ⟨Tryz.prog, GT, lkS [(54, .sig ⟨ps_spec_l01In, rs_spec_l01In, C_spec_l01In⟩)], 140, 5⟩
noncomputable def C_spec_l03Row : TakD ps_spec_l03Row → ValD ps_spec_l03Row → Option (MutD ps_spec_l03Row × ResD rs_spec_l03Row) := evF X_spec_l03Row TT 3 53 ps_spec_l03Row rs_spec_l03Row
noncomputable def L_spec_l03Row_2 (row : List (Int)) (i : Int) : Option (MutD ps_spec_l03Row × ResD rs_spec_l03Row) := rsF X_spec_l03Row TT 3 53 ps_spec_l03Row rs_spec_l03Row 2 ⟨[(0, (.c (.bor (.int .i64) row))), (3, (.c (.int .i64 i)))], [], [], []⟩
theorem e_spec_l03Row (row : List (Int)) : C_spec_l03Row () (row, ()) =
  L_spec_l03Row_2 row 0 := by
  kernel_rfl
theorem l_spec_l03Row_2 (row : List (Int)) (i : Int) : L_spec_l03Row_2 row i =
  bif ltC i (↑row.length : Int) then
  bif leC 0 i && ltC i (↑row.length : Int) then
  Option.bind (C_spec_l01In () (row.getD i.toNat 0, 0, 99, ())) fun c1 =>
  bif !c1.snd.fst then
  some ((), false, ())
  else
  L_spec_l03Row_2 row (IntKind.i64.wrap (i + 1))
  else
  none
  else
  some ((), leC (↑row.length : Int) 4, ()) :=
  (rsF_eq X_spec_l03Row TT 3 53 ps_spec_l03Row rs_spec_l03Row 2 _).trans (by kernel_rfl)
theorem s_spec_l03Row : RowOk Tryz.prog GT 140 5 53 (.sig ⟨ps_spec_l03Row, rs_spec_l03Row, C_spec_l03Row⟩) := ⟨evF_sound (X := X_spec_l03Row) (tabOk bld0 ⟨s_spec_l01In, trivial⟩) TT 3 53 ps_spec_l03Row rs_spec_l03Row rfl, enters_fn (by kernel_rfl)⟩
@[reducible] def ps_spec_RowLess : List Par := [⟨.val, false, (.sl 3 (.int .i64))⟩, ⟨.val, false, (.sl 3 (.int .i64))⟩]
@[reducible] def rs_spec_RowLess : List (Bool × Ty) := [(false, .bool)]
noncomputable def X_spec_RowLess : Ctx := ⟨Tryz.prog, GT, lkS [], 140, 5⟩
noncomputable def C_spec_RowLess : TakD ps_spec_RowLess → ValD ps_spec_RowLess → Option (MutD ps_spec_RowLess × ResD rs_spec_RowLess) := evF X_spec_RowLess TT 3 55 ps_spec_RowLess rs_spec_RowLess
noncomputable def L_spec_RowLess_2 (a : List (Int)) (b : List (Int)) (i : Int) : Option (MutD ps_spec_RowLess × ResD rs_spec_RowLess) := rsF X_spec_RowLess TT 3 55 ps_spec_RowLess rs_spec_RowLess 2 ⟨[(0, (.c (.bor (.int .i64) a))), (1, (.c (.bor (.int .i64) b))), (5, (.c (.int .i64 i)))], [], [], []⟩
theorem e_spec_RowLess (a : List (Int)) (b : List (Int)) : C_spec_RowLess () (a, b, ()) =
  L_spec_RowLess_2 a b 0 := by
  kernel_rfl
theorem l_spec_RowLess_2 (a : List (Int)) (b : List (Int)) (i : Int) : L_spec_RowLess_2 a b i =
  bif ltC i (↑a.length : Int) then
  bif ltC i (↑b.length : Int) then
  bif leC 0 i && ltC i (↑a.length : Int) then
  bif leC 0 i && ltC i (↑b.length : Int) then
  bif a.getD i.toNat 0 != b.getD i.toNat 0 then
  bif leC 0 i && ltC i (↑a.length : Int) then
  bif leC 0 i && ltC i (↑b.length : Int) then
  some ((), ltC (a.getD i.toNat 0) (b.getD i.toNat 0), ())
  else
  none
  else
  none
  else
  L_spec_RowLess_2 a b (IntKind.i64.wrap (i + 1))
  else
  none
  else
  none
  else
  some ((), ltC (↑a.length : Int) (↑b.length : Int), ())
  else
  some ((), ltC (↑a.length : Int) (↑b.length : Int), ()) :=
  (rsF_eq X_spec_RowLess TT 3 55 ps_spec_RowLess rs_spec_RowLess 2 _).trans (by kernel_rfl)
theorem s_spec_RowLess : RowOk Tryz.prog GT 140 5 55 (.sig ⟨ps_spec_RowLess, rs_spec_RowLess, C_spec_RowLess⟩) := ⟨evF_sound (X := X_spec_RowLess) (tabOk bld0 trivial) TT 3 55 ps_spec_RowLess rs_spec_RowLess rfl, enters_fn (by kernel_rfl)⟩
@[reducible] def ps_spec_BagOk : List Par := [⟨.val, true, (.sl 92 T_impl_Item)⟩]
@[reducible] def rs_spec_BagOk : List (Bool × Ty) := [(false, .bool)]
noncomputable def X_spec_BagOk : Ctx := ⟨Tryz.prog, GT, lkS [(53, .sig ⟨ps_spec_l03Row, rs_spec_l03Row, C_spec_l03Row⟩), (54, .sig ⟨ps_spec_l01In, rs_spec_l01In, C_spec_l01In⟩), (55, .sig ⟨ps_spec_RowLess, rs_spec_RowLess, C_spec_RowLess⟩)], 140, 5⟩
noncomputable def C_spec_BagOk : TakD ps_spec_BagOk → ValD ps_spec_BagOk → Option (MutD ps_spec_BagOk × ResD rs_spec_BagOk) := evF X_spec_BagOk TT 3 33 ps_spec_BagOk rs_spec_BagOk
noncomputable def L_spec_BagOk_2 (i : Int) (o1 : List (T_impl_Item.den)) : Option (MutD ps_spec_BagOk × ResD rs_spec_BagOk) := rsF X_spec_BagOk TT 3 33 ps_spec_BagOk rs_spec_BagOk 2 ⟨[(1, (.c (.ptr 0 0 0))), (3, (.c (.int .i64 i)))], [], [], [(.box 52 [(.bor T_impl_Item o1)])]⟩
theorem e_spec_BagOk (b : List (T_impl_Item.den)) : C_spec_BagOk () (b, ()) =
  L_spec_BagOk_2 0 b := by
  kernel_rfl
theorem l_spec_BagOk_2 (i : Int) (o1 : List (T_impl_Item.den)) : L_spec_BagOk_2 i o1 =
  bif ltC i (↑o1.length : Int) then
  bif leC 0 i && ltC i (↑o1.length : Int) then
  Option.bind (C_spec_l03Row () ((o1.getD i.toNat T_impl_Item.dflt).fst, ())) fun c1 =>
  bif !c1.snd.fst then
  some ((), false, ())
  else
  Option.bind (C_spec_l01In () ((o1.getD i.toNat T_impl_Item.dflt).snd, 1, 1000000, ())) fun c2 =>
  bif !c2.snd.fst then
  some ((), false, ())
  else
  bif ltC 0 i then
  bif leC 0 (IntKind.i64.wrap (i - 1)) && ltC (IntKind.i64.wrap (i - 1)) (↑o1.length : Int) then
  Option.bind (C_spec_RowLess () ((o1.getD (IntKind.i64.wrap (i - 1)).toNat T_impl_Item.dflt).fst, (o1.getD i.toNat T_impl_Item.dflt).fst, ())) fun c3 =>
  bif !c3.snd.fst then
  some ((), false, ())
  else
  bif leC 0 (IntKind.i64.wrap (i - 1)) && ltC (IntKind.i64.wrap (i - 1)) (↑o1.length : Int) then
  bif (↑(List.length (o1.getD (IntKind.i64.wrap (i - 1)).toNat T_impl_Item.dflt).fst) : Int) !=   (↑(List.length (o1.getD i.toNat T_impl_Item.dflt).fst) : Int) then
  some ((), false, ())
  else
  L_spec_BagOk_2 (IntKind.i64.wrap (i + 1)) o1
  else
  none
  else
  none
  else
  L_spec_BagOk_2 (IntKind.i64.wrap (i + 1)) o1
  else
  none
  else
  some ((), leC (↑o1.length : Int) 300, ()) :=
  (rsF_eq X_spec_BagOk TT 3 33 ps_spec_BagOk rs_spec_BagOk 2 _).trans (by kernel_rfl)
theorem s_spec_BagOk : RowOk Tryz.prog GT 140 5 33 (.sig ⟨ps_spec_BagOk, rs_spec_BagOk, C_spec_BagOk⟩) := ⟨evF_sound (X := X_spec_BagOk) (tabOk bld0 ⟨s_spec_l03Row, s_spec_l01In, s_spec_RowLess, trivial⟩) TT 3 33 ps_spec_BagOk rs_spec_BagOk rfl, enters_fn (by kernel_rfl)⟩
end Go.Proofs.YtglbaihiibdemaaGreatDoor.Fn
