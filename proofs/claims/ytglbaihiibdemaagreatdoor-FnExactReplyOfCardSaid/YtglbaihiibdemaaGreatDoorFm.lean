/- What is proved here: the functions that copy, count and compare the arguments do so: copies are equal, counts are the sizes, equal data compare equal. -/
import Derived.Test.YtglbaihiibdemaaGreatDoorFn4
import Derived.Test.YtglbaihiibdemaaGreatDoorFam
namespace Go.Proofs.YtglbaihiibdemaaGreatDoor.Fn
open Go Go.Proofs Go.Proofs.YtglbaihiibdemaaGreatDoor.Am
set_option autoImplicit false
set_option maxRecDepth 100000
theorem k_laws_szStringS (a : List (List UInt8)) (left : Int) (h : Lens (.sl 9 .str) a) (h0 : 0 ≤ left) (h1 : left ≤ 1048576) : C_laws_szStringS () (a, left, ()) = some ((), szv (size (.sl 9 .str) a) left, ()) := by
  rw [e_laws_szStringS]
  refine sz_eq (a := List.length a + (((a.drop 0).map List.length).sum)) (b := size (.sl 9 .str) a) ?_ ?_
  · rw [wrap_len (n := List.length a) (lenLl h) h0 h1]
    refine sz_len (lenLl h) h0 h1 fun p1 => ?_
    have q1 : left - (List.length a : Int) ≤ 1048576 := by omega
    exact sz_loop0 L_laws_szStringS_5 l_laws_szStringS_5 a (lenl h) (fun x hx => lene h x hx) a.length 0 _ rfl p1 q1
  · simp [size]
theorem k_laws_szAtom (a : T_impl_Atom.den) (left : Int) (h : Lens T_impl_Atom a) (h0 : 0 ≤ left) (h1 : left ≤ 1048576) : C_laws_szAtom () (a, left, ()) = some ((), szv (size T_impl_Atom a) left, ()) := by
  rw [e_laws_szAtom]
  refine sz_eq (a := List.length a.fst + (List.length a.snd.fst + (List.length a.snd.snd + (0)))) (b := size T_impl_Atom a) ?_ ?_
  · rw [wrap_len (n := List.length a.fst) (lenLs (len1 h)) h0 h1]
    refine sz_len (lenLs (len1 h)) h0 h1 fun p1 => ?_
    have q1 : left - (List.length a.fst : Int) ≤ 1048576 := by omega
    rw [wrap_len (n := List.length a.snd.fst) (lenLs (len1 (len2 h))) p1 q1]
    refine sz_len (lenLs (len1 (len2 h))) p1 q1 fun p2 => ?_
    have q2 : (left - (List.length a.fst : Int)) - (List.length a.snd.fst : Int) ≤ 1048576 := by omega
    rw [wrap_len (n := List.length a.snd.snd) (lenLs (len2 (len2 h))) p2 q2]
    refine sz_len (lenLs (len2 (len2 h))) p2 q2 fun p3 => ?_
    have q3 : ((left - (List.length a.fst : Int)) - (List.length a.snd.fst : Int)) - (List.length a.snd.snd : Int) ≤ 1048576 := by omega
    exact sz_end p3
  · simp only [size] <;> omega
theorem k_laws_szAtomS (a : List (T_impl_Atom.den)) (left : Int) (h : Lens (.sl 118 T_impl_Atom) a) (h0 : 0 ≤ left) (h1 : left ≤ 1048576) : C_laws_szAtomS () (a, left, ()) = some ((), szv (size (.sl 118 T_impl_Atom) a) left, ()) := by
  rw [e_laws_szAtomS]
  refine sz_eq (a := List.length a + (((a.drop 0).map (size T_impl_Atom)).sum)) (b := size (.sl 118 T_impl_Atom) a) ?_ ?_
  · rw [wrap_len (n := List.length a) (lenLl h) h0 h1]
    refine sz_len (lenLl h) h0 h1 fun p1 => ?_
    have q1 : left - (List.length a : Int) ≤ 1048576 := by omega
    exact sz_loop L_laws_szAtomS_5 (fun x l => C_laws_szAtom () (x, l, ())) _ (size T_impl_Atom) l_laws_szAtomS_5 a (lenl h) (fun x hx l r0 r1 => k_laws_szAtom x l (lene h x hx) r0 r1) a.length 0 _ rfl p1 q1
  · simp [size]
theorem k_laws_szFilter (a : T_impl_Filter.den) (left : Int) (h : Lens T_impl_Filter a) (h0 : 0 ≤ left) (h1 : left ≤ 1048576) : C_laws_szFilter () (a, left, ()) = some ((), szv (size T_impl_Filter a) left, ()) := by
  rw [e_laws_szFilter]
  refine sz_eq (a := List.length a.fst + (List.length a.snd.snd.fst + (0))) (b := size T_impl_Filter a) ?_ ?_
  · rw [wrap_len (n := List.length a.fst) (lenLs (len1 h)) h0 h1]
    refine sz_len (lenLs (len1 h)) h0 h1 fun p1 => ?_
    have q1 : left - (List.length a.fst : Int) ≤ 1048576 := by omega
    rw [wrap_len (n := List.length a.snd.snd.fst) (lenLs (len1 (len2 (len2 h)))) p1 q1]
    refine sz_len (lenLs (len1 (len2 (len2 h)))) p1 q1 fun p2 => ?_
    have q2 : (left - (List.length a.fst : Int)) - (List.length a.snd.snd.fst : Int) ≤ 1048576 := by omega
    exact sz_end p2
  · simp only [size] <;> omega
theorem k_laws_szFilterS (a : List (T_impl_Filter.den)) (left : Int) (h : Lens (.sl 121 T_impl_Filter) a) (h0 : 0 ≤ left) (h1 : left ≤ 1048576) : C_laws_szFilterS () (a, left, ()) = some ((), szv (size (.sl 121 T_impl_Filter) a) left, ()) := by
  rw [e_laws_szFilterS]
  refine sz_eq (a := List.length a + (((a.drop 0).map (size T_impl_Filter)).sum)) (b := size (.sl 121 T_impl_Filter) a) ?_ ?_
  · rw [wrap_len (n := List.length a) (lenLl h) h0 h1]
    refine sz_len (lenLl h) h0 h1 fun p1 => ?_
    have q1 : left - (List.length a : Int) ≤ 1048576 := by omega
    exact sz_loop L_laws_szFilterS_5 (fun x l => C_laws_szFilter () (x, l, ())) _ (size T_impl_Filter) l_laws_szFilterS_5 a (lenl h) (fun x hx l r0 r1 => k_laws_szFilter x l (lene h x hx) r0 r1) a.length 0 _ rfl p1 q1
  · simp [size]
theorem k_laws_szQuery (a : T_laws_Query.den) (left : Int) (h : Lens T_laws_Query a) (h0 : 0 ≤ left) (h1 : left ≤ 1048576) : C_laws_szQuery () (a, left, ()) = some ((), szv (size T_laws_Query a) left, ()) := by
  rw [e_laws_szQuery]
  refine sz_eq (a := size (.sl 9 .str) a.snd.fst + (size (.sl 118 T_impl_Atom) a.snd.snd.fst + (size (.sl 121 T_impl_Filter) a.snd.snd.snd + (0)))) (b := size T_laws_Query a) ?_ ?_
  · refine sz_bind (k_laws_szStringS _ _ (len1 (len2 h)) h0 h1) h0 h1 fun l1 p1 q1 => ?_
    refine sz_bind (k_laws_szAtomS _ _ (len1 (len2 (len2 h))) p1 q1) p1 q1 fun l2 p2 q2 => ?_
    refine sz_bind (k_laws_szFilterS _ _ (len2 (len2 (len2 h))) p2 q2) p2 q2 fun l3 p3 q3 => ?_
    exact sz_end p3
  · simp only [size] <;> omega
theorem k_laws_szFile (a : T_impl_File.den) (left : Int) (h : Lens T_impl_File a) (h0 : 0 ≤ left) (h1 : left ≤ 1048576) : C_laws_szFile () (a, left, ()) = some ((), szv (size T_impl_File a) left, ()) := by
  rw [e_laws_szFile]
  refine sz_eq (a := List.length a.fst + (List.length a.snd.fst + (0))) (b := size T_impl_File a) ?_ ?_
  · rw [wrap_len (n := List.length a.fst) (lenLs (len1 h)) h0 h1]
    refine sz_len (lenLs (len1 h)) h0 h1 fun p1 => ?_
    have q1 : left - (List.length a.fst : Int) ≤ 1048576 := by omega
    rw [wrap_len (n := List.length a.snd.fst) (lenLs (len1 (len2 h))) p1 q1]
    refine sz_len (lenLs (len1 (len2 h))) p1 q1 fun p2 => ?_
    have q2 : (left - (List.length a.fst : Int)) - (List.length a.snd.fst : Int) ≤ 1048576 := by omega
    exact sz_end p2
  · simp only [size] <;> omega
theorem k_laws_szFileS (a : List (T_impl_File.den)) (left : Int) (h : Lens (.sl 182 T_impl_File) a) (h0 : 0 ≤ left) (h1 : left ≤ 1048576) : C_laws_szFileS () (a, left, ()) = some ((), szv (size (.sl 182 T_impl_File) a) left, ()) := by
  rw [e_laws_szFileS]
  refine sz_eq (a := List.length a + (((a.drop 0).map (size T_impl_File)).sum)) (b := size (.sl 182 T_impl_File) a) ?_ ?_
  · rw [wrap_len (n := List.length a) (lenLl h) h0 h1]
    refine sz_len (lenLl h) h0 h1 fun p1 => ?_
    have q1 : left - (List.length a : Int) ≤ 1048576 := by omega
    exact sz_loop L_laws_szFileS_5 (fun x l => C_laws_szFile () (x, l, ())) _ (size T_impl_File) l_laws_szFileS_5 a (lenl h) (fun x hx l r0 r1 => k_laws_szFile x l (lene h x hx) r0 r1) a.length 0 _ rfl p1 q1
  · simp [size]
theorem k_laws_szDisk (a : List (T_impl_File.den)) (left : Int) (h : Lens (.sl 182 T_impl_File) a) (h0 : 0 ≤ left) (h1 : left ≤ 1048576) : C_laws_szDisk () (a, left, ()) = some ((), szv (size (.sl 182 T_impl_File) a) left, ()) := by
  rw [e_laws_szDisk]
  refine sz_eq (a := size (.sl 182 T_impl_File) a + (0)) (b := size (.sl 182 T_impl_File) a) ?_ ?_
  · refine sz_bind (k_laws_szFileS _ _ h h0 h1) h0 h1 fun l1 p1 q1 => ?_
    exact sz_end p1
  · simp only [size] <;> omega
theorem k_laws_szLink (a : T_impl_Link.den) (left : Int) (h : Lens T_impl_Link a) (h0 : 0 ≤ left) (h1 : left ≤ 1048576) : C_laws_szLink () (a, left, ()) = some ((), szv (size T_impl_Link a) left, ()) := by
  rw [e_laws_szLink]
  refine sz_eq (a := size (.sl 9 .str) a.fst + (0)) (b := size T_impl_Link a) ?_ ?_
  · refine sz_bind (k_laws_szStringS _ _ (len1 h) h0 h1) h0 h1 fun l1 p1 q1 => ?_
    exact sz_end p1
  · simp only [size] <;> omega
theorem k_laws_szLinkS (a : List (T_impl_Link.den)) (left : Int) (h : Lens (.sl 156 T_impl_Link) a) (h0 : 0 ≤ left) (h1 : left ≤ 1048576) : C_laws_szLinkS () (a, left, ()) = some ((), szv (size (.sl 156 T_impl_Link) a) left, ()) := by
  rw [e_laws_szLinkS]
  refine sz_eq (a := List.length a + (((a.drop 0).map (size T_impl_Link)).sum)) (b := size (.sl 156 T_impl_Link) a) ?_ ?_
  · rw [wrap_len (n := List.length a) (lenLl h) h0 h1]
    refine sz_len (lenLl h) h0 h1 fun p1 => ?_
    have q1 : left - (List.length a : Int) ≤ 1048576 := by omega
    exact sz_loop L_laws_szLinkS_5 (fun x l => C_laws_szLink () (x, l, ())) _ (size T_impl_Link) l_laws_szLinkS_5 a (lenl h) (fun x hx l r0 r1 => k_laws_szLink x l (lene h x hx) r0 r1) a.length 0 _ rfl p1 q1
  · simp [size]
theorem k_laws_szIntS (a : List (Int)) (left : Int) (h : Lens (.sl 3 (.int .i64)) a) (h0 : 0 ≤ left) (h1 : left ≤ 1048576) : C_laws_szIntS () (a, left, ()) = some ((), szv (size (.sl 3 (.int .i64)) a) left, ()) := by
  rw [e_laws_szIntS]
  refine sz_eq (a := List.length a + (0)) (b := size (.sl 3 (.int .i64)) a) ?_ ?_
  · rw [wrap_len (n := List.length a) (lenLl h) h0 h1]
    refine sz_len (lenLl h) h0 h1 fun p1 => ?_
    have q1 : left - (List.length a : Int) ≤ 1048576 := by omega
    exact sz_end p1
  · simp only [size]; rw [sum_zero fun _ => rfl]
theorem k_laws_szWalkS (a : List (T_impl_Walk.den)) (left : Int) (h : Lens (.sl 196 T_impl_Walk) a) (h0 : 0 ≤ left) (h1 : left ≤ 1048576) : C_laws_szWalkS () (a, left, ()) = some ((), szv (size (.sl 196 T_impl_Walk) a) left, ()) := by
  rw [e_laws_szWalkS]
  refine sz_eq (a := List.length a + (0)) (b := size (.sl 196 T_impl_Walk) a) ?_ ?_
  · rw [wrap_len (n := List.length a) (lenLl h) h0 h1]
    refine sz_len (lenLl h) h0 h1 fun p1 => ?_
    have q1 : left - (List.length a : Int) ≤ 1048576 := by omega
    exact sz_end p1
  · simp only [size]; rw [sum_zero fun _ => rfl]
theorem k_laws_szItem (a : T_impl_Item.den) (left : Int) (h : Lens T_impl_Item a) (h0 : 0 ≤ left) (h1 : left ≤ 1048576) : C_laws_szItem () (a, left, ()) = some ((), szv (size T_impl_Item a) left, ()) := by
  rw [e_laws_szItem]
  refine sz_eq (a := size (.sl 3 (.int .i64)) a.fst + (0)) (b := size T_impl_Item a) ?_ ?_
  · refine sz_bind (k_laws_szIntS _ _ (len1 h) h0 h1) h0 h1 fun l1 p1 q1 => ?_
    exact sz_end p1
  · simp only [size] <;> omega
theorem k_laws_szItemS (a : List (T_impl_Item.den)) (left : Int) (h : Lens (.sl 162 T_impl_Item) a) (h0 : 0 ≤ left) (h1 : left ≤ 1048576) : C_laws_szItemS () (a, left, ()) = some ((), szv (size (.sl 162 T_impl_Item) a) left, ()) := by
  rw [e_laws_szItemS]
  refine sz_eq (a := List.length a + (((a.drop 0).map (size T_impl_Item)).sum)) (b := size (.sl 162 T_impl_Item) a) ?_ ?_
  · rw [wrap_len (n := List.length a) (lenLl h) h0 h1]
    refine sz_len (lenLl h) h0 h1 fun p1 => ?_
    have q1 : left - (List.length a : Int) ≤ 1048576 := by omega
    exact sz_loop L_laws_szItemS_5 (fun x l => C_laws_szItem () (x, l, ())) _ (size T_impl_Item) l_laws_szItemS_5 a (lenl h) (fun x hx l r0 r1 => k_laws_szItem x l (lene h x hx) r0 r1) a.length 0 _ rfl p1 q1
  · simp [size]
theorem k_laws_szBag (a : List (T_impl_Item.den)) (left : Int) (h : Lens (.sl 162 T_impl_Item) a) (h0 : 0 ≤ left) (h1 : left ≤ 1048576) : C_laws_szBag () (a, left, ()) = some ((), szv (size (.sl 162 T_impl_Item) a) left, ()) := by
  rw [e_laws_szBag]
  refine sz_eq (a := size (.sl 162 T_impl_Item) a + (0)) (b := size (.sl 162 T_impl_Item) a) ?_ ?_
  · refine sz_bind (k_laws_szItemS _ _ h h0 h1) h0 h1 fun l1 p1 q1 => ?_
    exact sz_end p1
  · simp only [size] <;> omega
theorem k_laws_szGot (a : T_laws_Got.den) (left : Int) (h : Lens T_laws_Got a) (h0 : 0 ≤ left) (h1 : left ≤ 1048576) : C_laws_szGot () (a, left, ()) = some ((), szv (size T_laws_Got a) left, ()) := by
  rw [e_laws_szGot]
  refine sz_eq (a := size (.sl 162 T_impl_Item) a.snd.snd + (0)) (b := size T_laws_Got a) ?_ ?_
  · refine sz_bind (k_laws_szBag _ _ (len2 (len2 h)) h0 h1) h0 h1 fun l1 p1 q1 => ?_
    exact sz_end p1
  · simp only [size] <;> omega
theorem k_laws_szGotS (a : List (T_laws_Got.den)) (left : Int) (h : Lens (.sl 190 T_laws_Got) a) (h0 : 0 ≤ left) (h1 : left ≤ 1048576) : C_laws_szGotS () (a, left, ()) = some ((), szv (size (.sl 190 T_laws_Got) a) left, ()) := by
  rw [e_laws_szGotS]
  refine sz_eq (a := List.length a + (((a.drop 0).map (size T_laws_Got)).sum)) (b := size (.sl 190 T_laws_Got) a) ?_ ?_
  · rw [wrap_len (n := List.length a) (lenLl h) h0 h1]
    refine sz_len (lenLl h) h0 h1 fun p1 => ?_
    have q1 : left - (List.length a : Int) ≤ 1048576 := by omega
    exact sz_loop L_laws_szGotS_5 (fun x l => C_laws_szGot () (x, l, ())) _ (size T_laws_Got) l_laws_szGotS_5 a (lenl h) (fun x hx l r0 r1 => k_laws_szGot x l (lene h x hx) r0 r1) a.length 0 _ rfl p1 q1
  · simp [size]
theorem k_laws_szCell (a : T_laws_Cell.den) (left : Int) (h : Lens T_laws_Cell a) (h0 : 0 ≤ left) (h1 : left ≤ 1048576) : C_laws_szCell () (a, left, ()) = some ((), szv (size T_laws_Cell a) left, ()) := by
  rw [e_laws_szCell]
  refine sz_eq (a := size T_laws_Query a.fst + (size (.sl 3 (.int .i64)) a.snd.fst + (size (.sl 190 T_laws_Got) a.snd.snd.snd.snd + (0)))) (b := size T_laws_Cell a) ?_ ?_
  · refine sz_bind (k_laws_szQuery _ _ (len1 h) h0 h1) h0 h1 fun l1 p1 q1 => ?_
    refine sz_bind (k_laws_szIntS _ _ (len1 (len2 h)) p1 q1) p1 q1 fun l2 p2 q2 => ?_
    refine sz_bind (k_laws_szGotS _ _ (len2 (len2 (len2 (len2 h)))) p2 q2) p2 q2 fun l3 p3 q3 => ?_
    exact sz_end p3
  · simp only [size] <;> omega
theorem k_laws_szLetter (a : T_laws_Letter.den) (left : Int) (h : Lens T_laws_Letter a) (h0 : 0 ≤ left) (h1 : left ≤ 1048576) : C_laws_szLetter () (a, left, ()) = some ((), szv (size T_laws_Letter a) left, ()) := by
  rw [e_laws_szLetter]
  refine sz_eq (a := size (.sl 196 T_impl_Walk) a.snd.snd.snd.snd.fst + (List.length a.snd.snd.snd.snd.snd + (0))) (b := size T_laws_Letter a) ?_ ?_
  · refine sz_bind (k_laws_szWalkS _ _ (len1 (len2 (len2 (len2 (len2 h))))) h0 h1) h0 h1 fun l1 p1 q1 => ?_
    rw [wrap_len (n := List.length a.snd.snd.snd.snd.snd) (lenLs (len2 (len2 (len2 (len2 (len2 h)))))) p1 q1]
    refine sz_len (lenLs (len2 (len2 (len2 (len2 (len2 h)))))) p1 q1 fun p2 => ?_
    have q2 : l1 - (List.length a.snd.snd.snd.snd.snd : Int) ≤ 1048576 := by omega
    exact sz_end p2
  · simp only [size] <;> omega
theorem k_laws_szMail (a : T_laws_Mail.den) (left : Int) (h : Lens T_laws_Mail a) (h0 : 0 ≤ left) (h1 : left ≤ 1048576) : C_laws_szMail () (a, left, ()) = some ((), szv (size T_laws_Mail a) left, ()) := by
  rw [e_laws_szMail]
  refine sz_eq (a := size T_laws_Letter a.snd + (0)) (b := size T_laws_Mail a) ?_ ?_
  · refine sz_bind (k_laws_szLetter _ _ (len2 h) h0 h1) h0 h1 fun l1 p1 q1 => ?_
    exact sz_end p1
  · simp only [size] <;> omega
theorem k_laws_szMailS (a : List (T_laws_Mail.den)) (left : Int) (h : Lens (.sl 187 T_laws_Mail) a) (h0 : 0 ≤ left) (h1 : left ≤ 1048576) : C_laws_szMailS () (a, left, ()) = some ((), szv (size (.sl 187 T_laws_Mail) a) left, ()) := by
  rw [e_laws_szMailS]
  refine sz_eq (a := List.length a + (((a.drop 0).map (size T_laws_Mail)).sum)) (b := size (.sl 187 T_laws_Mail) a) ?_ ?_
  · rw [wrap_len (n := List.length a) (lenLl h) h0 h1]
    refine sz_len (lenLl h) h0 h1 fun p1 => ?_
    have q1 : left - (List.length a : Int) ≤ 1048576 := by omega
    exact sz_loop L_laws_szMailS_5 (fun x l => C_laws_szMail () (x, l, ())) _ (size T_laws_Mail) l_laws_szMailS_5 a (lenl h) (fun x hx l r0 r1 => k_laws_szMail x l (lene h x hx) r0 r1) a.length 0 _ rfl p1 q1
  · simp [size]
theorem k_laws_szWork (a : T_laws_Work.den) (left : Int) (h : Lens T_laws_Work a) (h0 : 0 ≤ left) (h1 : left ≤ 1048576) : C_laws_szWork () (a, left, ()) = some ((), szv (size T_laws_Work a) left, ()) := by
  rw [e_laws_szWork]
  refine sz_eq (a := size T_laws_Query a.snd.fst + (size (.sl 3 (.int .i64)) a.snd.snd.fst + (size (.sl 196 T_impl_Walk) a.snd.snd.snd.snd.fst + (size T_laws_Cell a.snd.snd.snd.snd.snd.snd.snd.snd.snd.snd.snd.fst + (size (.sl 187 T_laws_Mail) a.snd.snd.snd.snd.snd.snd.snd.snd.snd.snd.snd.snd.snd + (0)))))) (b := size T_laws_Work a) ?_ ?_
  · refine sz_bind (k_laws_szQuery _ _ (len1 (len2 h)) h0 h1) h0 h1 fun l1 p1 q1 => ?_
    refine sz_bind (k_laws_szIntS _ _ (len1 (len2 (len2 h))) p1 q1) p1 q1 fun l2 p2 q2 => ?_
    refine sz_bind (k_laws_szWalkS _ _ (len1 (len2 (len2 (len2 (len2 h))))) p2 q2) p2 q2 fun l3 p3 q3 => ?_
    refine sz_bind (k_laws_szCell _ _ (len1 (len2 (len2 (len2 (len2 (len2 (len2 (len2 (len2 (len2 (len2 (len2 h)))))))))))) p3 q3) p3 q3 fun l4 p4 q4 => ?_
    refine sz_bind (k_laws_szMailS _ _ (len2 (len2 (len2 (len2 (len2 (len2 (len2 (len2 (len2 (len2 (len2 (len2 (len2 h))))))))))))) p4 q4) p4 q4 fun l5 p5 q5 => ?_
    exact sz_end p5
  · simp only [size] <;> omega
theorem k_laws_szAsk (a : T_laws_Ask.den) (left : Int) (h : Lens T_laws_Ask a) (h0 : 0 ≤ left) (h1 : left ≤ 1048576) : C_laws_szAsk () (a, left, ()) = some ((), szv (size T_laws_Ask a) left, ()) := by
  rw [e_laws_szAsk]
  refine sz_eq (a := size T_laws_Query a.snd.fst + (size (.sl 3 (.int .i64)) a.snd.snd.fst + (size (.sl 190 T_laws_Got) a.snd.snd.snd.snd.fst + (size (.sl 162 T_impl_Item) a.snd.snd.snd.snd.snd.snd + (0))))) (b := size T_laws_Ask a) ?_ ?_
  · refine sz_bind (k_laws_szQuery _ _ (len1 (len2 h)) h0 h1) h0 h1 fun l1 p1 q1 => ?_
    refine sz_bind (k_laws_szIntS _ _ (len1 (len2 (len2 h))) p1 q1) p1 q1 fun l2 p2 q2 => ?_
    refine sz_bind (k_laws_szGotS _ _ (len1 (len2 (len2 (len2 (len2 h))))) p2 q2) p2 q2 fun l3 p3 q3 => ?_
    refine sz_bind (k_laws_szBag _ _ (len2 (len2 (len2 (len2 (len2 (len2 h)))))) p3 q3) p3 q3 fun l4 p4 q4 => ?_
    exact sz_end p4
  · simp only [size] <;> omega
theorem k_laws_szNode (a : T_laws_Node.den) (left : Int) (h : Lens T_laws_Node a) (h0 : 0 ≤ left) (h1 : left ≤ 1048576) : C_laws_szNode () (a, left, ()) = some ((), szv (size T_laws_Node a) left, ()) := by
  rw [e_laws_szNode]
  refine sz_eq (a := size (.sl 182 T_impl_File) a.snd.snd.fst + (size (.sl 156 T_impl_Link) a.snd.snd.snd.snd.snd.fst + (size T_laws_Work a.snd.snd.snd.snd.snd.snd.fst + (size T_laws_Ask a.snd.snd.snd.snd.snd.snd.snd + (0))))) (b := size T_laws_Node a) ?_ ?_
  · refine sz_bind (k_laws_szDisk _ _ (len1 (len2 (len2 h))) h0 h1) h0 h1 fun l1 p1 q1 => ?_
    refine sz_bind (k_laws_szLinkS _ _ (len1 (len2 (len2 (len2 (len2 (len2 h)))))) p1 q1) p1 q1 fun l2 p2 q2 => ?_
    refine sz_bind (k_laws_szWork _ _ (len1 (len2 (len2 (len2 (len2 (len2 (len2 h))))))) p2 q2) p2 q2 fun l3 p3 q3 => ?_
    refine sz_bind (k_laws_szAsk _ _ (len2 (len2 (len2 (len2 (len2 (len2 (len2 h))))))) p3 q3) p3 q3 fun l4 p4 q4 => ?_
    exact sz_end p4
  · simp only [size] <;> omega
theorem k_laws_szNodeS (a : List (T_laws_Node.den)) (left : Int) (h : Lens (.sl 86 T_laws_Node) a) (h0 : 0 ≤ left) (h1 : left ≤ 1048576) : C_laws_szNodeS () (a, left, ()) = some ((), szv (size (.sl 86 T_laws_Node) a) left, ()) := by
  rw [e_laws_szNodeS]
  refine sz_eq (a := List.length a + (((a.drop 0).map (size T_laws_Node)).sum)) (b := size (.sl 86 T_laws_Node) a) ?_ ?_
  · rw [wrap_len (n := List.length a) (lenLl h) h0 h1]
    refine sz_len (lenLl h) h0 h1 fun p1 => ?_
    have q1 : left - (List.length a : Int) ≤ 1048576 := by omega
    exact sz_loop L_laws_szNodeS_5 (fun x l => C_laws_szNode () (x, l, ())) _ (size T_laws_Node) l_laws_szNodeS_5 a (lenl h) (fun x hx l r0 r1 => k_laws_szNode x l (lene h x hx) r0 r1) a.length 0 _ rfl p1 q1
  · simp [size]
theorem k_laws_szBagS (a : List (List (T_impl_Item.den))) (left : Int) (h : Lens (.sl 82 (.sl 162 T_impl_Item)) a) (h0 : 0 ≤ left) (h1 : left ≤ 1048576) : C_laws_szBagS () (a, left, ()) = some ((), szv (size (.sl 82 (.sl 162 T_impl_Item)) a) left, ()) := by
  rw [e_laws_szBagS]
  refine sz_eq (a := List.length a + (((a.drop 0).map (size (.sl 162 T_impl_Item))).sum)) (b := size (.sl 82 (.sl 162 T_impl_Item)) a) ?_ ?_
  · rw [wrap_len (n := List.length a) (lenLl h) h0 h1]
    refine sz_len (lenLl h) h0 h1 fun p1 => ?_
    have q1 : left - (List.length a : Int) ≤ 1048576 := by omega
    exact sz_loop L_laws_szBagS_5 (fun x l => C_laws_szBag () (x, l, ())) _ (size (.sl 162 T_impl_Item)) l_laws_szBagS_5 a (lenl h) (fun x hx l r0 r1 => k_laws_szBag x l (lene h x hx) r0 r1) a.length 0 _ rfl p1 q1
  · simp [size]
theorem k_laws_szCluster (a : T_laws_Cluster.den) (left : Int) (h : Lens T_laws_Cluster a) (h0 : 0 ≤ left) (h1 : left ≤ 1048576) : C_laws_szCluster () (a, left, ()) = some ((), szv (size T_laws_Cluster a) left, ()) := by
  rw [e_laws_szCluster]
  refine sz_eq (a := size T_laws_Query a.fst + (size (.sl 86 T_laws_Node) a.snd.fst + (size (.sl 9 .str) a.snd.snd.fst + (size (.sl 3 (.int .i64)) a.snd.snd.snd.fst + (size (.sl 82 (.sl 162 T_impl_Item)) a.snd.snd.snd.snd + (0)))))) (b := size T_laws_Cluster a) ?_ ?_
  · refine sz_bind (k_laws_szQuery _ _ (len1 h) h0 h1) h0 h1 fun l1 p1 q1 => ?_
    refine sz_bind (k_laws_szNodeS _ _ (len1 (len2 h)) p1 q1) p1 q1 fun l2 p2 q2 => ?_
    refine sz_bind (k_laws_szStringS _ _ (len1 (len2 (len2 h))) p2 q2) p2 q2 fun l3 p3 q3 => ?_
    refine sz_bind (k_laws_szIntS _ _ (len1 (len2 (len2 (len2 h)))) p3 q3) p3 q3 fun l4 p4 q4 => ?_
    refine sz_bind (k_laws_szBagS _ _ (len2 (len2 (len2 (len2 h)))) p4 q4) p4 q4 fun l5 p5 q5 => ?_
    exact sz_end p5
  · simp only [size] <;> omega
theorem k_laws_toStringS (a : List (List UInt8)) (h : size (.sl 9 .str) a ≤ NB) : C_laws_toStringS () (a, ()) = some ((), a, ()) :=
  (e_laws_toStringS a).trans ((cond_t (mk_ok (sizl h) (by decide))).trans (to_loop0 L_laws_toStringS_3 _ (fun o => some ((), o, ())) l_laws_toStringS_3 a (Nat.le_trans (sizl h) (by decide)) 0 _ (Nat.zero_le _) (by simp) rfl))
theorem k_laws_toAtom (a : T_impl_Atom.den) (h : size T_impl_Atom a ≤ NB) : C_laws_toAtom () (a, ()) = some ((), a, ()) :=
  (e_laws_toAtom a).trans rfl
theorem k_laws_toAtomS (a : List (T_impl_Atom.den)) (h : size (.sl 118 T_impl_Atom) a ≤ NB) : C_laws_toAtomS () (a, ()) = some ((), a, ()) :=
  (e_laws_toAtomS a).trans ((cond_t (mk_ok (sizl h) (by decide))).trans (to_loop L_laws_toAtomS_3 (fun x => C_laws_toAtom () (x, ())) _ (fun o => some ((), o, ())) l_laws_toAtomS_3 a (Nat.le_trans (sizl h) (by decide)) (fun x hx => k_laws_toAtom x (size_el h x hx)) a.length 0 _ rfl (by simp) rfl))
theorem k_laws_toFilter (a : T_impl_Filter.den) (h : size T_impl_Filter a ≤ NB) : C_laws_toFilter () (a, ()) = some ((), a, ()) :=
  (e_laws_toFilter a).trans rfl
theorem k_laws_toFilterS (a : List (T_impl_Filter.den)) (h : size (.sl 121 T_impl_Filter) a ≤ NB) : C_laws_toFilterS () (a, ()) = some ((), a, ()) :=
  (e_laws_toFilterS a).trans ((cond_t (mk_ok (sizl h) (by decide))).trans (to_loop L_laws_toFilterS_3 (fun x => C_laws_toFilter () (x, ())) _ (fun o => some ((), o, ())) l_laws_toFilterS_3 a (Nat.le_trans (sizl h) (by decide)) (fun x hx => k_laws_toFilter x (size_el h x hx)) a.length 0 _ rfl (by simp) rfl))
theorem k_laws_toQuery (a : T_laws_Query.den) (h : size T_laws_Query a ≤ NB) : C_laws_toQuery () (a, ()) = some ((), a, ()) :=
  (e_laws_toQuery a).trans (bind_k (k_laws_toStringS _ (siz1 (siz2 h))) (bind_k (k_laws_toAtomS _ (siz1 (siz2 (siz2 h)))) (bind_k (k_laws_toFilterS _ (siz2 (siz2 (siz2 h)))) rfl)))
theorem k_laws_toFile (a : T_impl_File.den) (h : size T_impl_File a ≤ NB) : C_laws_toFile () (a, ()) = some ((), a, ()) :=
  (e_laws_toFile a).trans rfl
theorem k_laws_toFileS (a : List (T_impl_File.den)) (h : size (.sl 182 T_impl_File) a ≤ NB) : C_laws_toFileS () (a, ()) = some ((), a, ()) :=
  (e_laws_toFileS a).trans ((cond_t (mk_ok (sizl h) (by decide))).trans (to_loop L_laws_toFileS_3 (fun x => C_laws_toFile () (x, ())) _ (fun o => some ((), o, ())) l_laws_toFileS_3 a (Nat.le_trans (sizl h) (by decide)) (fun x hx => k_laws_toFile x (size_el h x hx)) a.length 0 _ rfl (by simp) rfl))
theorem k_laws_toDisk (a : List (T_impl_File.den)) (h : size (.sl 182 T_impl_File) a ≤ NB) : C_laws_toDisk () (a, ()) = some ((), a, ()) :=
  (e_laws_toDisk a).trans (bind_k (k_laws_toFileS _ h) rfl)
theorem k_laws_toLink (a : T_impl_Link.den) (h : size T_impl_Link a ≤ NB) : C_laws_toLink () (a, ()) = some ((), a, ()) :=
  (e_laws_toLink a).trans (bind_k (k_laws_toStringS _ (siz1 h)) rfl)
theorem k_laws_toLinkS (a : List (T_impl_Link.den)) (h : size (.sl 156 T_impl_Link) a ≤ NB) : C_laws_toLinkS () (a, ()) = some ((), a, ()) :=
  (e_laws_toLinkS a).trans ((cond_t (mk_ok (sizl h) (by decide))).trans (to_loop L_laws_toLinkS_3 (fun x => C_laws_toLink () (x, ())) _ (fun o => some ((), o, ())) l_laws_toLinkS_3 a (Nat.le_trans (sizl h) (by decide)) (fun x hx => k_laws_toLink x (size_el h x hx)) a.length 0 _ rfl (by simp) rfl))
theorem k_laws_toIntS (a : List (Int)) (h : size (.sl 3 (.int .i64)) a ≤ NB) : C_laws_toIntS () (a, ()) = some ((), a, ()) :=
  (e_laws_toIntS a).trans ((cond_t (mk_ok (sizl h) (by decide))).trans (to_loop0 L_laws_toIntS_3 _ (fun o => some ((), o, ())) l_laws_toIntS_3 a (Nat.le_trans (sizl h) (by decide)) 0 _ (Nat.zero_le _) (by simp) rfl))
theorem k_laws_toWalk (a : T_impl_Walk.den) (h : size T_impl_Walk a ≤ NB) : C_laws_toWalk () (a, ()) = some ((), a, ()) :=
  (e_laws_toWalk a).trans rfl
theorem k_laws_toWalkS (a : List (T_impl_Walk.den)) (h : size (.sl 196 T_impl_Walk) a ≤ NB) : C_laws_toWalkS () (a, ()) = some ((), a, ()) :=
  (e_laws_toWalkS a).trans ((cond_t (mk_ok (sizl h) (by decide))).trans (to_loop L_laws_toWalkS_3 (fun x => C_laws_toWalk () (x, ())) _ (fun o => some ((), o, ())) l_laws_toWalkS_3 a (Nat.le_trans (sizl h) (by decide)) (fun x hx => k_laws_toWalk x (size_el h x hx)) a.length 0 _ rfl (by simp) rfl))
theorem k_laws_toItem (a : T_impl_Item.den) (h : size T_impl_Item a ≤ NB) : C_laws_toItem () (a, ()) = some ((), a, ()) :=
  (e_laws_toItem a).trans (bind_k (k_laws_toIntS _ (siz1 h)) rfl)
theorem k_laws_toItemS (a : List (T_impl_Item.den)) (h : size (.sl 162 T_impl_Item) a ≤ NB) : C_laws_toItemS () (a, ()) = some ((), a, ()) :=
  (e_laws_toItemS a).trans ((cond_t (mk_ok (sizl h) (by decide))).trans (to_loop L_laws_toItemS_3 (fun x => C_laws_toItem () (x, ())) _ (fun o => some ((), o, ())) l_laws_toItemS_3 a (Nat.le_trans (sizl h) (by decide)) (fun x hx => k_laws_toItem x (size_el h x hx)) a.length 0 _ rfl (by simp) rfl))
theorem k_laws_toBag (a : List (T_impl_Item.den)) (h : size (.sl 162 T_impl_Item) a ≤ NB) : C_laws_toBag () (a, ()) = some ((), a, ()) :=
  (e_laws_toBag a).trans (bind_k (k_laws_toItemS _ h) rfl)
theorem k_laws_toGot (a : T_laws_Got.den) (h : size T_laws_Got a ≤ NB) : C_laws_toGot () (a, ()) = some ((), a, ()) :=
  (e_laws_toGot a).trans (bind_k (k_laws_toBag _ (siz2 (siz2 h))) rfl)
theorem k_laws_toGotS (a : List (T_laws_Got.den)) (h : size (.sl 190 T_laws_Got) a ≤ NB) : C_laws_toGotS () (a, ()) = some ((), a, ()) :=
  (e_laws_toGotS a).trans ((cond_t (mk_ok (sizl h) (by decide))).trans (to_loop L_laws_toGotS_3 (fun x => C_laws_toGot () (x, ())) _ (fun o => some ((), o, ())) l_laws_toGotS_3 a (Nat.le_trans (sizl h) (by decide)) (fun x hx => k_laws_toGot x (size_el h x hx)) a.length 0 _ rfl (by simp) rfl))
theorem k_laws_toCell (a : T_laws_Cell.den) (h : size T_laws_Cell a ≤ NB) : C_laws_toCell () (a, ()) = some ((), a, ()) :=
  (e_laws_toCell a).trans (bind_k (k_laws_toQuery _ (siz1 h)) (bind_k (k_laws_toIntS _ (siz1 (siz2 h))) (bind_k (k_laws_toGotS _ (siz2 (siz2 (siz2 (siz2 h))))) rfl)))
theorem k_laws_toLetter (a : T_laws_Letter.den) (h : size T_laws_Letter a ≤ NB) : C_laws_toLetter () (a, ()) = some ((), a, ()) :=
  (e_laws_toLetter a).trans (bind_k (k_laws_toWalkS _ (siz1 (siz2 (siz2 (siz2 (siz2 h)))))) rfl)
theorem k_laws_toMail (a : T_laws_Mail.den) (h : size T_laws_Mail a ≤ NB) : C_laws_toMail () (a, ()) = some ((), a, ()) :=
  (e_laws_toMail a).trans (bind_k (k_laws_toLetter _ (siz2 h)) rfl)
theorem k_laws_toMailS (a : List (T_laws_Mail.den)) (h : size (.sl 187 T_laws_Mail) a ≤ NB) : C_laws_toMailS () (a, ()) = some ((), a, ()) :=
  (e_laws_toMailS a).trans ((cond_t (mk_ok (sizl h) (by decide))).trans (to_loop L_laws_toMailS_3 (fun x => C_laws_toMail () (x, ())) _ (fun o => some ((), o, ())) l_laws_toMailS_3 a (Nat.le_trans (sizl h) (by decide)) (fun x hx => k_laws_toMail x (size_el h x hx)) a.length 0 _ rfl (by simp) rfl))
theorem k_laws_toWork (a : T_laws_Work.den) (h : size T_laws_Work a ≤ NB) : C_laws_toWork () (a, ()) = some ((), a, ()) :=
  (e_laws_toWork a).trans (bind_k (k_laws_toQuery _ (siz1 (siz2 h))) (bind_k (k_laws_toIntS _ (siz1 (siz2 (siz2 h)))) (bind_k (k_laws_toWalkS _ (siz1 (siz2 (siz2 (siz2 (siz2 h)))))) (bind_k (k_laws_toCell _ (siz1 (siz2 (siz2 (siz2 (siz2 (siz2 (siz2 (siz2 (siz2 (siz2 (siz2 (siz2 h))))))))))))) (bind_k (k_laws_toMailS _ (siz2 (siz2 (siz2 (siz2 (siz2 (siz2 (siz2 (siz2 (siz2 (siz2 (siz2 (siz2 (siz2 h)))))))))))))) rfl)))))
theorem k_laws_toAsk (a : T_laws_Ask.den) (h : size T_laws_Ask a ≤ NB) : C_laws_toAsk () (a, ()) = some ((), a, ()) :=
  (e_laws_toAsk a).trans (bind_k (k_laws_toQuery _ (siz1 (siz2 h))) (bind_k (k_laws_toIntS _ (siz1 (siz2 (siz2 h)))) (bind_k (k_laws_toGotS _ (siz1 (siz2 (siz2 (siz2 (siz2 h)))))) (bind_k (k_laws_toBag _ (siz2 (siz2 (siz2 (siz2 (siz2 (siz2 h))))))) rfl))))
theorem k_laws_toNode (a : T_laws_Node.den) (h : size T_laws_Node a ≤ NB) : C_laws_toNode () (a, ()) = some ((), a, ()) :=
  (e_laws_toNode a).trans (bind_k (k_laws_toDisk _ (siz1 (siz2 (siz2 h)))) (bind_k (k_laws_toLinkS _ (siz1 (siz2 (siz2 (siz2 (siz2 (siz2 h))))))) (bind_k (k_laws_toWork _ (siz1 (siz2 (siz2 (siz2 (siz2 (siz2 (siz2 h)))))))) (bind_k (k_laws_toAsk _ (siz2 (siz2 (siz2 (siz2 (siz2 (siz2 (siz2 h)))))))) rfl))))
theorem k_laws_toNodeS (a : List (T_laws_Node.den)) (h : size (.sl 86 T_laws_Node) a ≤ NB) : C_laws_toNodeS () (a, ()) = some ((), a, ()) :=
  (e_laws_toNodeS a).trans ((cond_t (mk_ok (sizl h) (by decide))).trans (to_loop L_laws_toNodeS_3 (fun x => C_laws_toNode () (x, ())) _ (fun o => some ((), o, ())) l_laws_toNodeS_3 a (Nat.le_trans (sizl h) (by decide)) (fun x hx => k_laws_toNode x (size_el h x hx)) a.length 0 _ rfl (by simp) rfl))
theorem k_laws_toBagS (a : List (List (T_impl_Item.den))) (h : size (.sl 82 (.sl 162 T_impl_Item)) a ≤ NB) : C_laws_toBagS () (a, ()) = some ((), a, ()) :=
  (e_laws_toBagS a).trans ((cond_t (mk_ok (sizl h) (by decide))).trans (to_loop L_laws_toBagS_3 (fun x => C_laws_toBag () (x, ())) _ (fun o => some ((), o, ())) l_laws_toBagS_3 a (Nat.le_trans (sizl h) (by decide)) (fun x hx => k_laws_toBag x (size_el h x hx)) a.length 0 _ rfl (by simp) rfl))
theorem k_laws_toCluster (a : T_laws_Cluster.den) (h : size T_laws_Cluster a ≤ NB) : C_laws_toCluster () (a, ()) = some ((), a, ()) :=
  (e_laws_toCluster a).trans (bind_k (k_laws_toQuery _ (siz1 h)) (bind_k (k_laws_toNodeS _ (siz1 (siz2 h))) (bind_k (k_laws_toStringS _ (siz1 (siz2 (siz2 h)))) (bind_k (k_laws_toIntS _ (siz1 (siz2 (siz2 (siz2 h))))) (bind_k (k_laws_toBagS _ (siz2 (siz2 (siz2 (siz2 h))))) rfl)))))
theorem k_laws_eqStringS (a : List (List UInt8)) (h : Lens (.sl 9 .str) a) : C_laws_eqStringS () (a, a, ()) = some ((), true, ()) :=
  (e_laws_eqStringS a a).trans ((cond_f (neg_self _)).trans (eq_loop0 L_laws_eqStringS_4 (fun x y => !(x == y)) _ _ _ l_laws_eqStringS_4 (fun x => eqg_self x) a (lenl h) a.length 0 rfl))
theorem k_laws_eqAtom (a : T_impl_Atom.den) (h : Lens T_impl_Atom a) : C_laws_eqAtom () (a, a, ()) = some ((), true, ()) :=
  (e_laws_eqAtom a a).trans ((cond_f (eqg_self _)).trans ((cond_f (eqg_self _)).trans ((cond_f (eqg_self _)).trans rfl)))
theorem k_laws_eqAtomS (a : List (T_impl_Atom.den)) (h : Lens (.sl 129 T_impl_Atom) a) : C_laws_eqAtomS () (a, a, ()) = some ((), true, ()) :=
  (e_laws_eqAtomS a a).trans ((cond_f (neg_self _)).trans (eq_loop L_laws_eqAtomS_4 (fun x y => C_laws_eqAtom () (x, y, ())) _ _ _ l_laws_eqAtomS_4 a (lenl h) (fun x hx => k_laws_eqAtom x (lene h x hx)) a.length 0 rfl))
theorem k_laws_eqFilter (a : T_impl_Filter.den) (h : Lens T_impl_Filter a) : C_laws_eqFilter () (a, a, ()) = some ((), true, ()) :=
  (e_laws_eqFilter a a).trans ((cond_f (eqg_self _)).trans ((cond_f (neg_self _)).trans ((cond_f (eqg_self _)).trans ((cond_f (neg_self _)).trans rfl))))
theorem k_laws_eqFilterS (a : List (T_impl_Filter.den)) (h : Lens (.sl 131 T_impl_Filter) a) : C_laws_eqFilterS () (a, a, ()) = some ((), true, ()) :=
  (e_laws_eqFilterS a a).trans ((cond_f (neg_self _)).trans (eq_loop L_laws_eqFilterS_4 (fun x y => C_laws_eqFilter () (x, y, ())) _ _ _ l_laws_eqFilterS_4 a (lenl h) (fun x hx => k_laws_eqFilter x (lene h x hx)) a.length 0 rfl))
theorem k_laws_eqQuery (a : T_impl_Query.den) (h : Lens T_impl_Query a) : C_laws_eqQuery () (a, a, ()) = some ((), true, ()) :=
  (e_laws_eqQuery a a).trans ((cond_f (eqg_self _)).trans (bind_k (k_laws_eqStringS _ (len1 (len2 h))) ((cond_f rfl).trans (bind_k (k_laws_eqAtomS _ (len1 (len2 (len2 h)))) ((cond_f rfl).trans (bind_k (k_laws_eqFilterS _ (len2 (len2 (len2 h)))) ((cond_f rfl).trans rfl)))))))
theorem k_laws_eqFile (a : T_impl_File.den) (h : Lens T_impl_File a) : C_laws_eqFile () (a, a, ()) = some ((), true, ()) :=
  (e_laws_eqFile a a).trans ((cond_f (eqg_self _)).trans ((cond_f (eqg_self _)).trans ((cond_f (neg_self _)).trans rfl)))
theorem k_laws_eqFileS (a : List (T_impl_File.den)) (h : Lens (.sl 191 T_impl_File) a) : C_laws_eqFileS () (a, a, ()) = some ((), true, ()) :=
  (e_laws_eqFileS a a).trans ((cond_f (neg_self _)).trans (eq_loop L_laws_eqFileS_4 (fun x y => C_laws_eqFile () (x, y, ())) _ _ _ l_laws_eqFileS_4 a (lenl h) (fun x hx => k_laws_eqFile x (lene h x hx)) a.length 0 rfl))
theorem k_laws_eqDisk (a : List (T_impl_File.den)) (h : Lens (.sl 191 T_impl_File) a) : C_laws_eqDisk () (a, a, ()) = some ((), true, ()) :=
  (e_laws_eqDisk a a).trans (bind_k (k_laws_eqFileS _ h) ((cond_f rfl).trans rfl))
theorem k_laws_eqLink (a : T_impl_Link.den) (h : Lens T_impl_Link a) : C_laws_eqLink () (a, a, ()) = some ((), true, ()) :=
  (e_laws_eqLink a a).trans (bind_k (k_laws_eqStringS _ (len1 h)) ((cond_f rfl).trans ((cond_f (neg_self _)).trans ((cond_f (neg_self _)).trans rfl))))
theorem k_laws_eqLinkS (a : List (T_impl_Link.den)) (h : Lens (.sl 164 T_impl_Link) a) : C_laws_eqLinkS () (a, a, ()) = some ((), true, ()) :=
  (e_laws_eqLinkS a a).trans ((cond_f (neg_self _)).trans (eq_loop L_laws_eqLinkS_4 (fun x y => C_laws_eqLink () (x, y, ())) _ _ _ l_laws_eqLinkS_4 a (lenl h) (fun x hx => k_laws_eqLink x (lene h x hx)) a.length 0 rfl))
theorem k_laws_eqIntS (a : List (Int)) (h : Lens (.sl 3 (.int .i64)) a) : C_laws_eqIntS () (a, a, ()) = some ((), true, ()) :=
  (e_laws_eqIntS a a).trans ((cond_f (neg_self _)).trans (eq_loop0 L_laws_eqIntS_4 (fun x y => x != y) _ _ _ l_laws_eqIntS_4 (fun x => neg_self x) a (lenl h) a.length 0 rfl))
theorem k_laws_eqWalk (a : T_impl_Walk.den) (h : Lens T_impl_Walk a) : C_laws_eqWalk () (a, a, ()) = some ((), true, ()) :=
  (e_laws_eqWalk a a).trans ((cond_f (neg_self _)).trans ((cond_f (neg_self _)).trans ((cond_f (neg_self _)).trans ((cond_f (neg_self _)).trans rfl))))
theorem k_laws_eqWalkS (a : List (T_impl_Walk.den)) (h : Lens (.sl 194 T_impl_Walk) a) : C_laws_eqWalkS () (a, a, ()) = some ((), true, ()) :=
  (e_laws_eqWalkS a a).trans ((cond_f (neg_self _)).trans (eq_loop L_laws_eqWalkS_4 (fun x y => C_laws_eqWalk () (x, y, ())) _ _ _ l_laws_eqWalkS_4 a (lenl h) (fun x hx => k_laws_eqWalk x (lene h x hx)) a.length 0 rfl))
theorem k_laws_eqItem (a : T_impl_Item.den) (h : Lens T_impl_Item a) : C_laws_eqItem () (a, a, ()) = some ((), true, ()) :=
  (e_laws_eqItem a a).trans (bind_k (k_laws_eqIntS _ (len1 h)) ((cond_f rfl).trans ((cond_f (neg_self _)).trans rfl)))
theorem k_laws_eqItemS (a : List (T_impl_Item.den)) (h : Lens (.sl 92 T_impl_Item) a) : C_laws_eqItemS () (a, a, ()) = some ((), true, ()) :=
  (e_laws_eqItemS a a).trans ((cond_f (neg_self _)).trans (eq_loop L_laws_eqItemS_4 (fun x y => C_laws_eqItem () (x, y, ())) _ _ _ l_laws_eqItemS_4 a (lenl h) (fun x hx => k_laws_eqItem x (lene h x hx)) a.length 0 rfl))
theorem k_laws_eqBag (a : List (T_impl_Item.den)) (h : Lens (.sl 92 T_impl_Item) a) : C_laws_eqBag () (a, a, ()) = some ((), true, ()) :=
  (e_laws_eqBag a a).trans (bind_k (k_laws_eqItemS _ h) ((cond_f rfl).trans rfl))
theorem k_laws_eqGot (a : T_impl_Got.den) (h : Lens T_impl_Got a) : C_laws_eqGot () (a, a, ()) = some ((), true, ()) :=
  (e_laws_eqGot a a).trans ((cond_f (neg_self _)).trans ((cond_f (neg_self _)).trans (bind_k (k_laws_eqBag _ (len2 (len2 h))) ((cond_f rfl).trans rfl))))
theorem k_laws_eqGotS (a : List (T_impl_Got.den)) (h : Lens (.sl 203 T_impl_Got) a) : C_laws_eqGotS () (a, a, ()) = some ((), true, ()) :=
  (e_laws_eqGotS a a).trans ((cond_f (neg_self _)).trans (eq_loop L_laws_eqGotS_4 (fun x y => C_laws_eqGot () (x, y, ())) _ _ _ l_laws_eqGotS_4 a (lenl h) (fun x hx => k_laws_eqGot x (lene h x hx)) a.length 0 rfl))
theorem k_laws_eqCell (a : T_impl_Cell.den) (h : Lens T_impl_Cell a) : C_laws_eqCell () (a, a, ()) = some ((), true, ()) :=
  (e_laws_eqCell a a).trans (bind_k (k_laws_eqQuery _ (len1 h)) ((cond_f rfl).trans (bind_k (k_laws_eqIntS _ (len1 (len2 h))) ((cond_f rfl).trans ((cond_f (neg_self _)).trans ((cond_f (neg_self _)).trans (bind_k (k_laws_eqGotS _ (len2 (len2 (len2 (len2 h))))) ((cond_f rfl).trans rfl))))))))
theorem k_laws_eqLetter (a : T_impl_Letter.den) (h : Lens T_impl_Letter a) : C_laws_eqLetter () (a, a, ()) = some ((), true, ()) :=
  (e_laws_eqLetter a a).trans ((cond_f (neg_self _)).trans ((cond_f (neg_self _)).trans ((cond_f (neg_self _)).trans ((cond_f (eqg_self _)).trans (bind_k (k_laws_eqWalkS _ (len1 (len2 (len2 (len2 (len2 h)))))) ((cond_f rfl).trans ((cond_f (eqg_self _)).trans rfl)))))))
theorem k_laws_eqMail (a : T_impl_Mail.den) (h : Lens T_impl_Mail a) : C_laws_eqMail () (a, a, ()) = some ((), true, ()) :=
  (e_laws_eqMail a a).trans ((cond_f (neg_self _)).trans (bind_k (k_laws_eqLetter _ (len2 h)) ((cond_f rfl).trans rfl)))
theorem k_laws_eqMailS (a : List (T_impl_Mail.den)) (h : Lens (.sl 200 T_impl_Mail) a) : C_laws_eqMailS () (a, a, ()) = some ((), true, ()) :=
  (e_laws_eqMailS a a).trans ((cond_f (neg_self _)).trans (eq_loop L_laws_eqMailS_4 (fun x y => C_laws_eqMail () (x, y, ())) _ _ _ l_laws_eqMailS_4 a (lenl h) (fun x hx => k_laws_eqMail x (lene h x hx)) a.length 0 rfl))
theorem k_laws_eqWork (a : T_impl_Work.den) (h : Lens T_impl_Work a) : C_laws_eqWork () (a, a, ()) = some ((), true, ()) :=
  (e_laws_eqWork a a).trans ((cond_f (eqg_self _)).trans (bind_k (k_laws_eqQuery _ (len1 (len2 h))) ((cond_f rfl).trans (bind_k (k_laws_eqIntS _ (len1 (len2 (len2 h)))) ((cond_f rfl).trans ((cond_f (neg_self _)).trans (bind_k (k_laws_eqWalkS _ (len1 (len2 (len2 (len2 (len2 h)))))) ((cond_f rfl).trans ((cond_f (neg_self _)).trans ((cond_f (eqg_self _)).trans ((cond_f (eqg_self _)).trans ((cond_f (neg_self _)).trans ((cond_f (eqg_self _)).trans ((cond_f (eqg_self _)).trans (bind_k (k_laws_eqCell _ (len1 (len2 (len2 (len2 (len2 (len2 (len2 (len2 (len2 (len2 (len2 (len2 h))))))))))))) ((cond_f rfl).trans ((cond_f (eqg_self _)).trans (bind_k (k_laws_eqMailS _ (len2 (len2 (len2 (len2 (len2 (len2 (len2 (len2 (len2 (len2 (len2 (len2 (len2 h)))))))))))))) ((cond_f rfl).trans rfl)))))))))))))))))))
theorem k_laws_eqAsk (a : T_impl_Ask.den) (h : Lens T_impl_Ask a) : C_laws_eqAsk () (a, a, ()) = some ((), true, ()) :=
  (e_laws_eqAsk a a).trans ((cond_f (eqg_self _)).trans (bind_k (k_laws_eqQuery _ (len1 (len2 h))) ((cond_f rfl).trans (bind_k (k_laws_eqIntS _ (len1 (len2 (len2 h)))) ((cond_f rfl).trans ((cond_f (neg_self _)).trans (bind_k (k_laws_eqGotS _ (len1 (len2 (len2 (len2 (len2 h)))))) ((cond_f rfl).trans ((cond_f (eqg_self _)).trans (bind_k (k_laws_eqBag _ (len2 (len2 (len2 (len2 (len2 (len2 h))))))) ((cond_f rfl).trans rfl)))))))))))
theorem k_laws_eqNode (a : T_impl_Node.den) (h : Lens T_impl_Node a) : C_laws_eqNode () (a, a, ()) = some ((), true, ()) :=
  (e_laws_eqNode a a).trans ((cond_f (neg_self _)).trans ((cond_f (eqg_self _)).trans (bind_k (k_laws_eqDisk _ (len1 (len2 (len2 h)))) ((cond_f rfl).trans ((cond_f (neg_self _)).trans ((cond_f (eqg_self _)).trans (bind_k (k_laws_eqLinkS _ (len1 (len2 (len2 (len2 (len2 (len2 h))))))) ((cond_f rfl).trans (bind_k (k_laws_eqWork _ (len1 (len2 (len2 (len2 (len2 (len2 (len2 h)))))))) ((cond_f rfl).trans (bind_k (k_laws_eqAsk _ (len2 (len2 (len2 (len2 (len2 (len2 (len2 h)))))))) ((cond_f rfl).trans rfl))))))))))))
theorem k_laws_eqNodeS (a : List (T_impl_Node.den)) (h : Lens (.sl 109 T_impl_Node) a) : C_laws_eqNodeS () (a, a, ()) = some ((), true, ()) :=
  (e_laws_eqNodeS a a).trans ((cond_f (neg_self _)).trans (eq_loop L_laws_eqNodeS_4 (fun x y => C_laws_eqNode () (x, y, ())) _ _ _ l_laws_eqNodeS_4 a (lenl h) (fun x hx => k_laws_eqNode x (lene h x hx)) a.length 0 rfl))
theorem k_laws_eqBagS (a : List (List (T_impl_Item.den))) (h : Lens (.sl 52 (.sl 92 T_impl_Item)) a) : C_laws_eqBagS () (a, a, ()) = some ((), true, ()) :=
  (e_laws_eqBagS a a).trans ((cond_f (neg_self _)).trans (eq_loop L_laws_eqBagS_4 (fun x y => C_laws_eqBag () (x, y, ())) _ _ _ l_laws_eqBagS_4 a (lenl h) (fun x hx => k_laws_eqBag x (lene h x hx)) a.length 0 rfl))
theorem k_laws_eqCluster (a : T_impl_Cluster.den) (h : Lens T_impl_Cluster a) : C_laws_eqCluster () (a, a, ()) = some ((), true, ()) :=
  (e_laws_eqCluster a a).trans (bind_k (k_laws_eqQuery _ (len1 h)) ((cond_f rfl).trans (bind_k (k_laws_eqNodeS _ (len1 (len2 h))) ((cond_f rfl).trans (bind_k (k_laws_eqStringS _ (len1 (len2 (len2 h)))) ((cond_f rfl).trans (bind_k (k_laws_eqIntS _ (len1 (len2 (len2 (len2 h))))) ((cond_f rfl).trans (bind_k (k_laws_eqBagS _ (len2 (len2 (len2 (len2 h))))) ((cond_f rfl).trans rfl))))))))))
end Go.Proofs.YtglbaihiibdemaaGreatDoor.Fn
