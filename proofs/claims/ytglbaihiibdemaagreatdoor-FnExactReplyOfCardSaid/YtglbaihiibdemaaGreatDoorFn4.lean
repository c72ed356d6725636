/- What is proved here: what functions of the program compute, as plain Lean terms; each by evaluation; and their contracts. -/
import Derived.Test.YtglbaihiibdemaaGreatDoorFn3
namespace Go.Proofs.YtglbaihiibdemaaGreatDoor.Fn
open Go Go.Proofs Go.Proofs.YtglbaihiibdemaaGreatDoor.Am
set_option autoImplicit false
set_option maxRecDepth 100000
@[reducible] def ps_laws_eqNodeS : List Par := [⟨.val, false, (.sl 109 T_impl_Node)⟩, ⟨.val, false, (.sl 109 T_impl_Node)⟩]
@[reducible] def rs_laws_eqNodeS : List (Bool × Ty) := [(false, .bool)]
noncomputable def X_laws_eqNodeS : Ctx := ⟨Tryz.prog, GT, lkS [(44, .sig ⟨ps_laws_eqNode, rs_laws_eqNode, C_laws_eqNode⟩)], 140, 5⟩
noncomputable def C_laws_eqNodeS : TakD ps_laws_eqNodeS → ValD ps_laws_eqNodeS → Option (MutD ps_laws_eqNodeS × ResD rs_laws_eqNodeS) := evF X_laws_eqNodeS TT 3 24 ps_laws_eqNodeS rs_laws_eqNodeS
noncomputable def L_laws_eqNodeS_4 (a : List (T_impl_Node.den)) (b : List (T_impl_Node.den)) (i : Int) : Option (MutD ps_laws_eqNodeS × ResD rs_laws_eqNodeS) := rsF X_laws_eqNodeS TT 3 24 ps_laws_eqNodeS rs_laws_eqNodeS 4 ⟨[(0, (.c (.bor T_impl_Node a))), (1, (.c (.bor T_impl_Node b))), (5, (.c (.int .i64 i)))], [], [], []⟩
theorem e_laws_eqNodeS (a : List (T_impl_Node.den)) (b : List (T_impl_Node.den)) : C_laws_eqNodeS () (a, b, ()) =
  bif (↑(List.length a) : Int) != (↑(List.length b) : Int) then
  some ((), false, ())
  else
  L_laws_eqNodeS_4 a b 0 := by
  kernel_rfl
theorem l_laws_eqNodeS_4 (a : List (T_impl_Node.den)) (b : List (T_impl_Node.den)) (i : Int) : L_laws_eqNodeS_4 a b i =
  bif ltC i (↑a.length : Int) then
  bif leC 0 i && ltC i (↑a.length : Int) then
  bif leC 0 i && ltC i (↑b.length : Int) then
  Option.bind (C_laws_eqNode () (a.getD i.toNat T_impl_Node.dflt, b.getD i.toNat T_impl_Node.dflt, ())) fun c1 =>
  bif !c1.snd.fst then
  some ((), false, ())
  else
  L_laws_eqNodeS_4 a b (IntKind.i64.wrap (i + 1))
  else
  none
  else
  none
  else
  some ((), true, ()) :=
  (rsF_eq X_laws_eqNodeS TT 3 24 ps_laws_eqNodeS rs_laws_eqNodeS 4 _).trans (by kernel_rfl)
theorem s_laws_eqNodeS : RowOk Tryz.prog GT 140 5 24 (.sig ⟨ps_laws_eqNodeS, rs_laws_eqNodeS, C_laws_eqNodeS⟩) := ⟨evF_sound (X := X_laws_eqNodeS) (tabOk bld0 ⟨s_laws_eqNode, trivial⟩) TT 3 24 ps_laws_eqNodeS rs_laws_eqNodeS rfl, enters_fn (by kernel_rfl)⟩
@[reducible] def ps_laws_eqBagS : List Par := [⟨.val, false, (.sl 52 (.sl 92 T_impl_Item))⟩, ⟨.val, false, (.sl 52 (.sl 92 T_impl_Item))⟩]
@[reducible] def rs_laws_eqBagS : List (Bool × Ty) := [(false, .bool)]
noncomputable def X_laws_eqBagS : Ctx := ⟨Tryz.prog, GT, lkS [(45, .sig ⟨ps_laws_eqBag, rs_laws_eqBag, C_laws_eqBag⟩)], 140, 5⟩
noncomputable def C_laws_eqBagS : TakD ps_laws_eqBagS → ValD ps_laws_eqBagS → Option (MutD ps_laws_eqBagS × ResD rs_laws_eqBagS) := evF X_laws_eqBagS TT 3 27 ps_laws_eqBagS rs_laws_eqBagS
noncomputable def L_laws_eqBagS_4 (a : List (List (T_impl_Item.den))) (b : List (List (T_impl_Item.den))) (i : Int) : Option (MutD ps_laws_eqBagS × ResD rs_laws_eqBagS) := rsF X_laws_eqBagS TT 3 27 ps_laws_eqBagS rs_laws_eqBagS 4 ⟨[(0, (.c (.bor (.sl 92 T_impl_Item) a))), (1, (.c (.bor (.sl 92 T_impl_Item) b))), (5, (.c (.int .i64 i)))], [], [], []⟩
theorem e_laws_eqBagS (a : List (List (T_impl_Item.den))) (b : List (List (T_impl_Item.den))) : C_laws_eqBagS () (a, b, ()) =
  bif (↑(List.length a) : Int) != (↑(List.length b) : Int) then
  some ((), false, ())
  else
  L_laws_eqBagS_4 a b 0 := by
  kernel_rfl
theorem l_laws_eqBagS_4 (a : List (List (T_impl_Item.den))) (b : List (List (T_impl_Item.den))) (i : Int) : L_laws_eqBagS_4 a b i =
  bif ltC i (↑a.length : Int) then
  bif leC 0 i && ltC i (↑a.length : Int) then
  bif leC 0 i && ltC i (↑b.length : Int) then
  Option.bind (C_laws_eqBag () (a.getD i.toNat [], b.getD i.toNat [], ())) fun c1 =>
  bif !c1.snd.fst then
  some ((), false, ())
  else
  L_laws_eqBagS_4 a b (IntKind.i64.wrap (i + 1))
  else
  none
  else
  none
  else
  some ((), true, ()) :=
  (rsF_eq X_laws_eqBagS TT 3 27 ps_laws_eqBagS rs_laws_eqBagS 4 _).trans (by kernel_rfl)
theorem s_laws_eqBagS : RowOk Tryz.prog GT 140 5 27 (.sig ⟨ps_laws_eqBagS, rs_laws_eqBagS, C_laws_eqBagS⟩) := ⟨evF_sound (X := X_laws_eqBagS) (tabOk bld0 ⟨s_laws_eqBag, trivial⟩) TT 3 27 ps_laws_eqBagS rs_laws_eqBagS rfl, enters_fn (by kernel_rfl)⟩
@[reducible] def ps_laws_eqCluster : List Par := [⟨.val, true, T_impl_Cluster⟩, ⟨.val, true, T_impl_Cluster⟩]
@[reducible] def rs_laws_eqCluster : List (Bool × Ty) := [(false, .bool)]
noncomputable def X_laws_eqCluster : Ctx := ⟨Tryz.prog, GT, lkS [(23, .sig ⟨ps_laws_eqQuery, rs_laws_eqQuery, C_laws_eqQuery⟩), (24, .sig ⟨ps_laws_eqNodeS, rs_laws_eqNodeS, C_laws_eqNodeS⟩), (25, .sig ⟨ps_laws_eqStringS, rs_laws_eqStringS, C_laws_eqStringS⟩), (26, .sig ⟨ps_laws_eqIntS, rs_laws_eqIntS, C_laws_eqIntS⟩), (27, .sig ⟨ps_laws_eqBagS, rs_laws_eqBagS, C_laws_eqBagS⟩)], 140, 5⟩
noncomputable def C_laws_eqCluster : TakD ps_laws_eqCluster → ValD ps_laws_eqCluster → Option (MutD ps_laws_eqCluster × ResD rs_laws_eqCluster) := evF X_laws_eqCluster TT 3 8 ps_laws_eqCluster rs_laws_eqCluster
theorem e_laws_eqCluster (a : T_impl_Cluster.den) (b : T_impl_Cluster.den) : C_laws_eqCluster () (a, b, ()) =
  Option.bind (C_laws_eqQuery () (a.fst, b.fst, ())) fun c1 =>
  bif !c1.snd.fst then
  some ((), false, ())
  else
  Option.bind (C_laws_eqNodeS () (a.snd.fst, b.snd.fst, ())) fun c2 =>
  bif !c2.snd.fst then
  some ((), false, ())
  else
  Option.bind (C_laws_eqStringS () (a.snd.snd.fst, b.snd.snd.fst, ())) fun c3 =>
  bif !c3.snd.fst then
  some ((), false, ())
  else
  Option.bind (C_laws_eqIntS () (a.snd.snd.snd.fst, b.snd.snd.snd.fst, ())) fun c4 =>
  bif !c4.snd.fst then
  some ((), false, ())
  else
  Option.bind (C_laws_eqBagS () (a.snd.snd.snd.snd, b.snd.snd.snd.snd, ())) fun c5 =>
  bif !c5.snd.fst then
  some ((), false, ())
  else
  some ((), true, ()) := by
  kernel_rfl
theorem s_laws_eqCluster : RowOk Tryz.prog GT 140 5 8 (.sig ⟨ps_laws_eqCluster, rs_laws_eqCluster, C_laws_eqCluster⟩) := ⟨evF_sound (X := X_laws_eqCluster) (tabOk bld0 ⟨s_laws_eqQuery, s_laws_eqNodeS, s_laws_eqStringS, s_laws_eqIntS, s_laws_eqBagS, trivial⟩) TT 3 8 ps_laws_eqCluster rs_laws_eqCluster rfl, enters_fn (by kernel_rfl)⟩
@[reducible] def ps_laws_FnExactReplyOf : List Par := [⟨.val, true, T_laws_Cluster⟩]
@[reducible] def rs_laws_FnExactReplyOf : List (Bool × Ty) := [(false, .bool)]
noncomputable def X_laws_FnExactReplyOf : Ctx := ⟨Tryz.prog, GT, lkS [(4, .sig ⟨ps_laws_szCluster, rs_laws_szCluster, C_laws_szCluster⟩), (5, .sig ⟨ps_spec_ReplyOf, rs_spec_ReplyOf, C_spec_ReplyOf⟩), (6, .sig ⟨ps_laws_toCluster, rs_laws_toCluster, C_laws_toCluster⟩), (7, .sig ⟨ps_impl_ReplyOf, rs_impl_ReplyOf, C_impl_ReplyOf⟩), (8, .sig ⟨ps_laws_eqCluster, rs_laws_eqCluster, C_laws_eqCluster⟩)], 140, 5⟩
noncomputable def C_laws_FnExactReplyOf : TakD ps_laws_FnExactReplyOf → ValD ps_laws_FnExactReplyOf → Option (MutD ps_laws_FnExactReplyOf × ResD rs_laws_FnExactReplyOf) := evF X_laws_FnExactReplyOf TT 3 3 ps_laws_FnExactReplyOf rs_laws_FnExactReplyOf
theorem e_laws_FnExactReplyOf (aC : T_laws_Cluster.den) : C_laws_FnExactReplyOf () (aC, ()) =
  Option.bind (C_laws_szCluster () (aC, 1048576, ())) fun c1 =>
  bif ltC c1.snd.fst 0 then
  some ((), true, ())
  else
  Option.bind (C_laws_toCluster () (aC, ())) fun c2 =>
  Option.bind (C_spec_ReplyOf () (c2.snd.fst, ())) fun c3 =>
  Option.bind (C_laws_toCluster () (aC, ())) fun c4 =>
  Option.bind (C_impl_ReplyOf () (c4.snd.fst, ())) fun c5 =>
  bif !c5.snd.fst == c3.snd.fst then
  some ((), false, ())
  else
  Option.bind (C_laws_toCluster () (aC, ())) fun c6 =>
  Option.bind (C_laws_eqCluster () (c4.snd.fst, c6.snd.fst, ())) fun c7 =>
  bif !c7.snd.fst then
  some ((), false, ())
  else
  some ((), true, ()) := by
  kernel_rfl
theorem s_laws_FnExactReplyOf : RowOk Tryz.prog GT 140 5 3 (.sig ⟨ps_laws_FnExactReplyOf, rs_laws_FnExactReplyOf, C_laws_FnExactReplyOf⟩) := ⟨evF_sound (X := X_laws_FnExactReplyOf) (tabOk bld0 ⟨s_laws_szCluster, s_spec_ReplyOf, s_laws_toCluster, s_impl_ReplyOf, s_laws_eqCluster, trivial⟩) TT 3 3 ps_laws_FnExactReplyOf rs_laws_FnExactReplyOf rfl, enters_fn (by kernel_rfl)⟩
end Go.Proofs.YtglbaihiibdemaaGreatDoor.Fn
