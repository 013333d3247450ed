/- What the functions that the law reaches compute, as functions of plain data (printed by program). -/
import Derived.Test.YtdlcimoofbhfaaaGreatEvW
set_option linter.all false
noncomputable section
namespace Go.G
open Go.Ev
abbrev Mail := Int × Int × Int × List UInt8
abbrev L01Cur := List Int × Int × Int
abbrev Edit := Int × List UInt8 × List UInt8 × (List (Int × Int)) × Int × Int × Int × List UInt8
abbrev Box := List UInt8 × Int × Int × Int × List Mail × (List (Int × Int)) × Int
def strings_IndexByte (s : List UInt8) (c : Int) : Option (Int) := if 0 ≤ c ∧ c ≤ 255 then some (indexByteAt s c 0) else none
def slices_Insert_impl_Box (s : List Box) (i : Int) (v : List Box) : Option (List Box) := if v.length = 1 ∧ 1 ≤ s.length then insertO s i v else none
def slices_Delete_impl_Box (s : List Box) (i : Int) (j : Int) : Option (List Box) := if 0 ≤ i ∧ j = i + 1 ∧ j ≤ (s.length : Int) ∧ s.length ≤ bound then some (s.take i.toNat ++ s.drop (i.toNat + 1)) else none
def laws_big (code : List Int) : Option (Bool) :=
 some (decide ((1048576 : Int) < (code.length : Int)))
def spec_l01New_L1_B (code : List Int) (go : (Int × Int) → Option (L01Cur)) (v : Int × Int) : Option (L01Cur) :=
 if (decide (v.2 < (code.length : Int))) = true then
  if (decide (v.2 < (4000 : Int))) = true then
   idxO code v.2 fun r =>
   go ((andI .i64 (w64 ((w64 ((w64 (v.1 * (131 : Int))) + (w64 r))) + (7 : Int))) (1073741823 : Int)), (w64 (v.2 + (1 : Int))))
  else
  some (code, (0 : Int), v.1)
 else
 some (code, (0 : Int), v.1)
def spec_l01New_L1 (code : List Int) : (Int × Int) → Option (L01Cur) := fixO (spec_l01New_L1_B code)
theorem spec_l01New_L1_eq (code : List Int) (v : Int × Int) : spec_l01New_L1 code v = spec_l01New_L1_B code (spec_l01New_L1 code) v := by
  unfold spec_l01New_L1; refine fixO_eq ?_ ?_ v
  · unfold spec_l01New_L1_B; exact fun _ _ h _ => (le_ite (le_ite (le_idx fun _ => (h _)) LeO.refl) LeO.refl)
  · unfold spec_l01New_L1_B; exact fun _ _ h _ => (cp_ite (cp_ite (cp_idx fun _ => (h _)) CpO.refl) CpO.refl)
def spec_l01New (code : List Int) : Option (L01Cur) :=
 spec_l01New_L1 code ((w64 ((35201 : Int) + (code.length : Int))), (0 : Int))
def spec_l01Byte (c : L01Cur) : Option (Int × L01Cur) :=
 reqO (0 ≤ (33 : Int)) <|
 reqO (0 ≤ (45 : Int)) <|
 if (decide (c.2.1 < (c.1.length : Int))) = true then
  idxO c.1 c.2.1 fun r =>
  some ((andI .i64 (w64 ((andI .i64 (xorI .i64 ((w64 ((w64 (c.2.2 * (6364136223846793005 : Int))) + (1442695040888963407 : Int))).fdiv (2 ^ (min (33 : Int).toNat (IntKind.bits .i64)))) ((w64 ((w64 (c.2.2 * (6364136223846793005 : Int))) + (1442695040888963407 : Int))).fdiv (2 ^ (min (45 : Int).toNat (IntKind.bits .i64))))) (255 : Int)) + (w64 r))) (255 : Int)), (c.1, (w64 (c.2.1 + (1 : Int))), (w64 ((w64 (c.2.2 * (6364136223846793005 : Int))) + (1442695040888963407 : Int)))))
 else
 some ((andI .i64 (xorI .i64 ((w64 ((w64 (c.2.2 * (6364136223846793005 : Int))) + (1442695040888963407 : Int))).fdiv (2 ^ (min (33 : Int).toNat (IntKind.bits .i64)))) ((w64 ((w64 (c.2.2 * (6364136223846793005 : Int))) + (1442695040888963407 : Int))).fdiv (2 ^ (min (45 : Int).toNat (IntKind.bits .i64))))) (255 : Int)), (c.1, c.2.1, (w64 ((w64 (c.2.2 * (6364136223846793005 : Int))) + (1442695040888963407 : Int)))))
def spec_l01Below (c : L01Cur) (n : Int) : Option (Int × L01Cur) :=
 if (decide (n ≤ (0 : Int))) = true then
  some ((0 : Int), c)
 else
 if (decide (n ≤ (256 : Int))) = true then
  (spec_l01Byte c).bind fun y =>
  reqO (n ≠ 0) <|
  some ((y.1.tmod n), y.2)
 else
 (spec_l01Byte c).bind fun y1 =>
 (spec_l01Byte y1.2).bind fun y2 =>
 (spec_l01Byte y2.2).bind fun y3 =>
 (spec_l01Byte y3.2).bind fun y4 =>
 reqO (n ≠ 0) <|
 some (((w64 ((w64 ((w64 ((w64 (y1.1 * (16777216 : Int))) + (w64 (y2.1 * (65536 : Int))))) + (w64 (y3.1 * (256 : Int))))) + y4.1)).tmod n), y4.2)
def spec_l01Pick (c : L01Cur) (list : List (List UInt8)) : Option (List UInt8 × L01Cur) :=
 (spec_l01Below c (list.length : Int)).bind fun y =>
 idxO list y.1 fun r =>
 some (r, y.2)
def spec_l09Name (c : L01Cur) : Option (List UInt8 × L01Cur) :=
 (spec_l01Pick c [([105, 110, 98, 111, 120] : List UInt8), ([105, 110, 98, 111, 120] : List UInt8), ([119, 111, 114, 107] : List UInt8), ([111, 108, 100] : List UInt8), ([97] : List UInt8), ([110, 111, 110, 101] : List UInt8)]).bind fun y =>
 some y
def spec_l01In (x : Int) (least : Int) (most : Int) : Option (Bool) :=
 if (decide (least ≤ x)) = true then
  some (decide (x ≤ most))
 else
 some false
def spec_SetOk_L1_B (s : List (Int × Int)) (go : Int → Option (Bool)) (v : Int) : Option (Bool) :=
 if (decide (v < (s.length : Int))) = true then
  idxO s v fun r =>
  idxO s v fun r1 =>
  (spec_l01In r.1 (1 : Int) r1.2).bind fun t =>
  if (!t) = true then
   some false
  else
  idxO s v fun r2 =>
  if (decide ((9999 : Int) < r2.2)) = true then
   some false
  else
  if (decide ((0 : Int) < v)) = true then
   idxO s v fun r3 =>
   idxO s (w64 (v - (1 : Int))) fun r4 =>
   if (decide (r3.1 ≤ (w64 (r4.2 + (1 : Int))))) = true then
    some false
   else
   go (w64 (v + (1 : Int)))
  else
  go (w64 (v + (1 : Int)))
 else
 some (decide ((s.length : Int) ≤ (40 : Int)))
def spec_SetOk_L1 (s : List (Int × Int)) : Int → Option (Bool) := fixO (spec_SetOk_L1_B s)
theorem spec_SetOk_L1_eq (s : List (Int × Int)) (v : Int) : spec_SetOk_L1 s v = spec_SetOk_L1_B s (spec_SetOk_L1 s) v := by
  unfold spec_SetOk_L1; refine fixO_eq ?_ ?_ v
  · unfold spec_SetOk_L1_B; exact fun _ _ h _ => (le_ite (le_idx fun _ => (le_idx fun _ => (le_bind LeO.refl fun _ => (le_ite LeO.refl (le_idx fun _ => (le_ite LeO.refl (le_ite (le_idx fun _ => (le_idx fun _ => (le_ite LeO.refl (h _)))) (h _)))))))) LeO.refl)
  · unfold spec_SetOk_L1_B; exact fun _ _ h _ => (cp_ite (cp_idx fun _ => (cp_idx fun _ => (cp_bind CpO.refl fun _ => (cp_ite CpO.refl (cp_idx fun _ => (cp_ite CpO.refl (cp_ite (cp_idx fun _ => (cp_idx fun _ => (cp_ite CpO.refl (h _)))) (h _)))))))) CpO.refl)
def spec_SetOk (s : List (Int × Int)) : Option (Bool) :=
 spec_SetOk_L1 s (0 : Int)
def spec_l05Bits_L2_B (s : List (Int × Int)) (v : Int × List Bool) (go : (Int × List Bool) → Option (List Bool)) (go1 : (Int × List Bool) → Option (List Bool)) (v1 : Int × List Bool) : Option (List Bool) :=
 idxO s v.1 fun r1 =>
 if (decide (v1.1 ≤ r1.2)) = true then
  reqO (0 ≤ v1.1 ∧ v1.1 < (v1.2.length : Int)) <|
  go1 ((w64 (v1.1 + (1 : Int))), (v1.2.set v1.1.toNat true))
 else
 go ((w64 (v.1 + (1 : Int))), v1.2)
def spec_l05Bits_L2 (s : List (Int × Int)) (v : Int × List Bool) (go : (Int × List Bool) → Option (List Bool)) : (Int × List Bool) → Option (List Bool) := fixO (spec_l05Bits_L2_B s v go)
theorem spec_l05Bits_L2_eq (s : List (Int × Int)) (v : Int × List Bool) (go : (Int × List Bool) → Option (List Bool)) (v1 : Int × List Bool) : spec_l05Bits_L2 s v go v1 = spec_l05Bits_L2_B s v go (spec_l05Bits_L2 s v go) v1 := by
  unfold spec_l05Bits_L2; refine fixO_eq ?_ ?_ v1
  · unfold spec_l05Bits_L2_B; exact fun _ _ h _ => (le_idx fun _ => (le_ite (le_req (h _)) LeO.refl))
  · unfold spec_l05Bits_L2_B; exact fun _ _ h _ => (cp_idx fun _ => (cp_ite (cp_req (h _)) CpO.refl))
def spec_l05Bits_L1_B (s : List (Int × Int)) (go : (Int × List Bool) → Option (List Bool)) (v : Int × List Bool) : Option (List Bool) :=
 if (decide (v.1 < (s.length : Int))) = true then
  idxO s v.1 fun r =>
  spec_l05Bits_L2 s v go (r.1, v.2)
 else
 some v.2
def spec_l05Bits_L1 (s : List (Int × Int)) : (Int × List Bool) → Option (List Bool) := fixO (spec_l05Bits_L1_B s)
theorem spec_l05Bits_L1_eq (s : List (Int × Int)) (v : Int × List Bool) : spec_l05Bits_L1 s v = spec_l05Bits_L1_B s (spec_l05Bits_L1 s) v := by
  unfold spec_l05Bits_L1; refine fixO_eq ?_ ?_ v
  · unfold spec_l05Bits_L1_B; exact fun _ _ h _ => (le_ite (le_idx fun _ => (by unfold spec_l05Bits_L2 spec_l05Bits_L2_B; refine le_fix ?_ ?_ _; exact (fun _ _ h_go1 _ => (le_idx fun _ => (le_ite (le_req (h_go1 _)) LeO.refl))); exact (fun _ _ h_go1 _ => (le_idx fun _ => (le_ite (le_req (h_go1 _)) (h _)))))) LeO.refl)
  · unfold spec_l05Bits_L1_B; exact fun _ _ h _ => (cp_ite (cp_idx fun _ => (by unfold spec_l05Bits_L2 spec_l05Bits_L2_B; refine cp_fix ?_ ?_ _; exact (fun _ _ _ h_go1 _ => (le_idx fun _ => (le_ite (le_req (h_go1 _)) LeO.refl))); exact (fun _ _ h_go1 _ => (cp_idx fun _ => (cp_ite (cp_req (h_go1 _)) (h _)))))) CpO.refl)
def spec_l05Bits (s : List (Int × Int)) : Option (List Bool) :=
 reqO (0 ≤ (10001 : Int) ∧ (10001 : Int) = (10001 : Int) ∧ (10001 : Int) ≤ (bound : Int)) <|
 spec_l05Bits_L1 s ((0 : Int), (List.replicate (10001 : Int).toNat false))
def spec_l05Set_L1_B (bits : List Bool) (go : ((List (Int × Int)) × Int) → Option ((List (Int × Int)) × Bool)) (v : (List (Int × Int)) × Int) : Option ((List (Int × Int)) × Bool) :=
 if (decide (v.2 ≤ (9999 : Int))) = true then
  idxO bits v.2 fun r =>
  if (!r) = true then
   go (v.1, (w64 (v.2 + (1 : Int))))
  else
  idxO bits (w64 (v.2 - (1 : Int))) fun r1 =>
  if (!r1) = true then
   reqO (v.1.length + [(v.2, (0 : Int))].length ≤ bound) <|
   reqO (0 ≤ (w64 (((v.1 ++ [(v.2, (0 : Int))]).length : Int) - (1 : Int))) ∧ (w64 (((v.1 ++ [(v.2, (0 : Int))]).length : Int) - (1 : Int))) < ((v.1 ++ [(v.2, (0 : Int))]).length : Int)) <|
   go (((v.1 ++ [(v.2, (0 : Int))]).modify (w64 (((v.1 ++ [(v.2, (0 : Int))]).length : Int) - (1 : Int))).toNat (fun q => (q.1, v.2))), (w64 (v.2 + (1 : Int))))
  else
  reqO (0 ≤ (w64 ((v.1.length : Int) - (1 : Int))) ∧ (w64 ((v.1.length : Int) - (1 : Int))) < (v.1.length : Int)) <|
  go ((v.1.modify (w64 ((v.1.length : Int) - (1 : Int))).toNat (fun q => (q.1, v.2))), (w64 (v.2 + (1 : Int))))
 else
 (spec_SetOk v.1).bind fun t =>
 if (!t) = true then
  some (([] : List (Int × Int)), false)
 else
 some (v.1, true)
def spec_l05Set_L1 (bits : List Bool) : ((List (Int × Int)) × Int) → Option ((List (Int × Int)) × Bool) := fixO (spec_l05Set_L1_B bits)
theorem spec_l05Set_L1_eq (bits : List Bool) (v : (List (Int × Int)) × Int) : spec_l05Set_L1 bits v = spec_l05Set_L1_B bits (spec_l05Set_L1 bits) v := by
  unfold spec_l05Set_L1; refine fixO_eq ?_ ?_ v
  · unfold spec_l05Set_L1_B; exact fun _ _ h _ => (le_ite (le_idx fun _ => (le_ite (h _) (le_idx fun _ => (le_ite (le_req (le_req (h _))) (le_req (h _)))))) LeO.refl)
  · unfold spec_l05Set_L1_B; exact fun _ _ h _ => (cp_ite (cp_idx fun _ => (cp_ite (h _) (cp_idx fun _ => (cp_ite (cp_req (cp_req (h _))) (cp_req (h _)))))) CpO.refl)
def spec_l05Set (bits : List Bool) : Option ((List (Int × Int)) × Bool) :=
 spec_l05Set_L1 bits (([] : List (Int × Int)), (1 : Int))
def spec_l05Put_L1_B (s : List (Int × Int)) (hi : Int) (to : Bool) (go : (Int × List Bool) → Option ((List (Int × Int)) × Bool)) (v : Int × List Bool) : Option ((List (Int × Int)) × Bool) :=
 if (decide (v.1 ≤ hi)) = true then
  reqO (0 ≤ v.1 ∧ v.1 < (v.2.length : Int)) <|
  go ((w64 (v.1 + (1 : Int))), (v.2.set v.1.toNat to))
 else
 (spec_l05Set v.2).bind fun y1 =>
 if (!y1.2) = true then
  some ((([] : List (Int × Int)) ++ s), false)
 else
 some (y1.1, true)
def spec_l05Put_L1 (s : List (Int × Int)) (hi : Int) (to : Bool) : (Int × List Bool) → Option ((List (Int × Int)) × Bool) := fixO (spec_l05Put_L1_B s hi to)
theorem spec_l05Put_L1_eq (s : List (Int × Int)) (hi : Int) (to : Bool) (v : Int × List Bool) : spec_l05Put_L1 s hi to v = spec_l05Put_L1_B s hi to (spec_l05Put_L1 s hi to) v := by
  unfold spec_l05Put_L1; refine fixO_eq ?_ ?_ v
  · unfold spec_l05Put_L1_B; exact fun _ _ h _ => (le_ite (le_req (h _)) LeO.refl)
  · unfold spec_l05Put_L1_B; exact fun _ _ h _ => (cp_ite (cp_req (h _)) CpO.refl)
def spec_l05Put (s : List (Int × Int)) (lo : Int) (hi : Int) (to : Bool) : Option ((List (Int × Int)) × Bool) :=
 reqO (([] : List (Int × Int)).length + s.length ≤ bound) <|
 (spec_SetOk s).bind fun t =>
 if (!t) = true then
  some ((([] : List (Int × Int)) ++ s), false)
 else
 (spec_l01In lo (1 : Int) hi).bind fun t1 =>
 if (!t1) = true then
  some ((([] : List (Int × Int)) ++ s), false)
 else
 if (decide ((9999 : Int) < hi)) = true then
  some ((([] : List (Int × Int)) ++ s), false)
 else
 (spec_l05Bits s).bind fun y =>
 spec_l05Put_L1 s hi to (lo, y)
def spec_SetAdd (s : List (Int × Int)) (lo : Int) (hi : Int) : Option ((List (Int × Int)) × Bool) :=
 (spec_l05Put s lo hi true).bind fun y =>
 some y
def spec_l01Once (c : L01Cur) (n : Int) : Option (Bool × L01Cur) :=
 (spec_l01Below c n).bind fun y =>
 some ((decide (y.1 = (0 : Int))), y.2)
def spec_l05Draw_L1_B (go : ((List (Int × Int)) × Int × L01Cur) → Option ((List (Int × Int)) × L01Cur)) (v : (List (Int × Int)) × Int × L01Cur) : Option ((List (Int × Int)) × L01Cur) :=
 (spec_l01Below v.2.2 (5 : Int)).bind fun y =>
 if (decide (v.2.1 < y.1)) = true then
  (spec_l01Below y.2 (14 : Int)).bind fun y1 =>
  (spec_l01Below y1.2 (4 : Int)).bind fun y2 =>
  (spec_SetAdd v.1 (w64 ((1 : Int) + y1.1)) (w64 ((w64 ((1 : Int) + y1.1)) + y2.1))).bind fun y3 =>
  go (y3.1, (w64 (v.2.1 + (1 : Int))), y2.2)
 else
 (spec_l01Once y.2 (10 : Int)).bind fun y4 =>
 if y4.1 = true then
  (spec_SetAdd v.1 (9998 : Int) (9999 : Int)).bind fun y5 =>
  some (y5.1, y4.2)
 else
 some (v.1, y4.2)
def spec_l05Draw_L1 : ((List (Int × Int)) × Int × L01Cur) → Option ((List (Int × Int)) × L01Cur) := fixO (spec_l05Draw_L1_B)
theorem spec_l05Draw_L1_eq (v : (List (Int × Int)) × Int × L01Cur) : spec_l05Draw_L1 v = spec_l05Draw_L1_B (spec_l05Draw_L1) v := by
  unfold spec_l05Draw_L1; refine fixO_eq ?_ ?_ v
  · unfold spec_l05Draw_L1_B; exact fun _ _ h _ => (le_bind LeO.refl fun _ => (le_ite (le_bind LeO.refl fun _ => (le_bind LeO.refl fun _ => (le_bind LeO.refl fun _ => (h _)))) LeO.refl))
  · unfold spec_l05Draw_L1_B; exact fun _ _ h _ => (cp_bind CpO.refl fun _ => (cp_ite (cp_bind CpO.refl fun _ => (cp_bind CpO.refl fun _ => (cp_bind CpO.refl fun _ => (h _)))) CpO.refl))
def spec_l05Draw (c : L01Cur) : Option ((List (Int × Int)) × L01Cur) :=
 spec_l05Draw_L1 (([] : List (Int × Int)), (0 : Int), c)
def spec_l01PickInt (c : L01Cur) (list : List Int) : Option (Int × L01Cur) :=
 (spec_l01Below c (list.length : Int)).bind fun y =>
 idxO list y.1 fun r =>
 some (r, y.2)
def spec_l05Any_L1_B (go : ((List (Int × Int)) × Int × L01Cur) → Option ((List (Int × Int)) × L01Cur)) (v : (List (Int × Int)) × Int × L01Cur) : Option ((List (Int × Int)) × L01Cur) :=
 (spec_l01Below v.2.2 (2 : Int)).bind fun y4 =>
 if (decide ((v.1.length : Int) < (w64 ((40 : Int) + y4.1)))) = true then
  reqO (v.1.length + [((w64 ((100 : Int) + (w64 ((3 : Int) * v.2.1)))), (w64 ((101 : Int) + (w64 ((3 : Int) * v.2.1)))))].length ≤ bound) <|
  go ((v.1 ++ [((w64 ((100 : Int) + (w64 ((3 : Int) * v.2.1)))), (w64 ((101 : Int) + (w64 ((3 : Int) * v.2.1)))))]), (w64 (v.2.1 + (1 : Int))), y4.2)
 else
 some (v.1, y4.2)
def spec_l05Any_L1 : ((List (Int × Int)) × Int × L01Cur) → Option ((List (Int × Int)) × L01Cur) := fixO (spec_l05Any_L1_B)
theorem spec_l05Any_L1_eq (v : (List (Int × Int)) × Int × L01Cur) : spec_l05Any_L1 v = spec_l05Any_L1_B (spec_l05Any_L1) v := by
  unfold spec_l05Any_L1; refine fixO_eq ?_ ?_ v
  · unfold spec_l05Any_L1_B; exact fun _ _ h _ => (le_bind LeO.refl fun _ => (le_ite (le_req (h _)) LeO.refl))
  · unfold spec_l05Any_L1_B; exact fun _ _ h _ => (cp_bind CpO.refl fun _ => (cp_ite (cp_req (h _)) CpO.refl))
def spec_l05Any (c : L01Cur) : Option ((List (Int × Int)) × L01Cur) :=
 (spec_l05Draw c).bind fun y =>
 reqO (([] : List (Int × Int)).length + y.1.length ≤ bound) <|
 (spec_l01Below y.2 (10 : Int)).bind fun y1 =>
 if (decide (y1.1 = (0 : Int))) = true then
  (spec_l01PickInt y1.2 [(0 : Int), (5 : Int), (9998 : Int)]).bind fun y2 =>
  (spec_l01PickInt y2.2 [(4 : Int), (9999 : Int), (10000 : Int)]).bind fun y3 =>
  reqO ((([] : List (Int × Int)) ++ y.1).length + [(y2.1, y3.1)].length ≤ bound) <|
  some (((([] : List (Int × Int)) ++ y.1) ++ [(y2.1, y3.1)]), y3.2)
 else
 if (decide (y1.1 = (1 : Int))) = true then
  reqO ([((1 : Int), (1 : Int))].length + (([] : List (Int × Int)) ++ y.1).length ≤ bound) <|
  some (([((1 : Int), (1 : Int))] ++ (([] : List (Int × Int)) ++ y.1)), y1.2)
 else
 if (decide (y1.1 = (2 : Int))) = true then
  spec_l05Any_L1 ((([] : List (Int × Int)) ++ y.1), (0 : Int), y1.2)
 else
 some ((([] : List (Int × Int)) ++ y.1), y1.2)
def spec_l08Copy (b : Box) : Option (Box) :=
 reqO (([] : List Mail).length + b.2.2.2.2.1.length ≤ bound) <|
 reqO (([] : List (Int × Int)).length + b.2.2.2.2.2.1.length ≤ bound) <|
 some (b.1, b.2.1, b.2.2.1, b.2.2.2.1, (([] : List Mail) ++ b.2.2.2.2.1), (([] : List (Int × Int)) ++ b.2.2.2.2.2.1), b.2.2.2.2.2.2)
def spec_l09Copy_L1_B (s : List Box × Int) (go : (Int × (List Box × Int)) → Option (List Box × Int)) (v : Int × (List Box × Int)) : Option (List Box × Int) :=
 if (decide (v.1 < (s.1.length : Int))) = true then
  idxO s.1 v.1 fun r =>
  (spec_l08Copy r).bind fun y =>
  reqO (v.2.1.length + [y].length ≤ bound) <|
  go ((w64 (v.1 + (1 : Int))), ((v.2.1 ++ [y]), v.2.2))
 else
 some v.2
def spec_l09Copy_L1 (s : List Box × Int) : (Int × (List Box × Int)) → Option (List Box × Int) := fixO (spec_l09Copy_L1_B s)
theorem spec_l09Copy_L1_eq (s : List Box × Int) (v : Int × (List Box × Int)) : spec_l09Copy_L1 s v = spec_l09Copy_L1_B s (spec_l09Copy_L1 s) v := by
  unfold spec_l09Copy_L1; refine fixO_eq ?_ ?_ v
  · unfold spec_l09Copy_L1_B; exact fun _ _ h _ => (le_ite (le_idx fun _ => (le_bind LeO.refl fun _ => (le_req (h _)))) LeO.refl)
  · unfold spec_l09Copy_L1_B; exact fun _ _ h _ => (cp_ite (cp_idx fun _ => (cp_bind CpO.refl fun _ => (cp_req (h _)))) CpO.refl)
def spec_l09Copy (s : List Box × Int) : Option (List Box × Int) :=
 spec_l09Copy_L1 s ((0 : Int), (([] : List Box), s.2))
def spec_BoxName_L1_B (s : List UInt8) (go : Int → Option (Bool)) (v : Int) : Option (Bool) :=
 if (decide (v < (s.length : Int))) = true then
  reqO (0 ≤ v ∧ v < (s.length : Int)) <|
  if (decide ((byteAt s v) < (97 : Int))) = true then
   some false
  else
  reqO (0 ≤ v ∧ v < (s.length : Int)) <|
  if (decide ((122 : Int) < (byteAt s v))) = true then
   some false
  else
  go (w64 (v + (1 : Int)))
 else
 (spec_l01In (s.length : Int) (1 : Int) (8 : Int)).bind fun t =>
 some t
def spec_BoxName_L1 (s : List UInt8) : Int → Option (Bool) := fixO (spec_BoxName_L1_B s)
theorem spec_BoxName_L1_eq (s : List UInt8) (v : Int) : spec_BoxName_L1 s v = spec_BoxName_L1_B s (spec_BoxName_L1 s) v := by
  unfold spec_BoxName_L1; refine fixO_eq ?_ ?_ v
  · unfold spec_BoxName_L1_B; exact fun _ _ h _ => (le_ite (le_req (le_ite LeO.refl (le_req (le_ite LeO.refl (h _))))) LeO.refl)
  · unfold spec_BoxName_L1_B; exact fun _ _ h _ => (cp_ite (cp_req (cp_ite CpO.refl (cp_req (cp_ite CpO.refl (h _))))) CpO.refl)
def spec_BoxName (s : List UInt8) : Option (Bool) :=
 spec_BoxName_L1 s (0 : Int)
def spec_FlagsOk (bits : Int) : Option (Bool) :=
 (spec_l01In bits (0 : Int) (31 : Int)).bind fun t =>
 some t
def spec_MailOk_L1_B (t : List UInt8) (go : Int → Option (Bool)) (v : Int) : Option (Bool) :=
 if (decide (v < (t.length : Int))) = true then
  reqO (0 ≤ v ∧ v < (t.length : Int)) <|
  if (decide ((byteAt t v) = (0 : Int))) = true then
   some false
  else
  go (w64 (v + (1 : Int)))
 else
 (spec_l01In (t.length : Int) (1 : Int) (200 : Int)).bind fun t1 =>
 some t1
def spec_MailOk_L1 (t : List UInt8) : Int → Option (Bool) := fixO (spec_MailOk_L1_B t)
theorem spec_MailOk_L1_eq (t : List UInt8) (v : Int) : spec_MailOk_L1 t v = spec_MailOk_L1_B t (spec_MailOk_L1 t) v := by
  unfold spec_MailOk_L1; refine fixO_eq ?_ ?_ v
  · unfold spec_MailOk_L1_B; exact fun _ _ h _ => (le_ite (le_req (le_ite LeO.refl (h _))) LeO.refl)
  · unfold spec_MailOk_L1_B; exact fun _ _ h _ => (cp_ite (cp_req (cp_ite CpO.refl (h _))) CpO.refl)
def spec_MailOk (t : List UInt8) : Option (Bool) :=
 spec_MailOk_L1 t (0 : Int)
def spec_l08HasMail_L1_B (b : Box) (uid : Int) (go : Int → Option (Bool)) (v : Int) : Option (Bool) :=
 if (decide (v < (b.2.2.2.2.1.length : Int))) = true then
  idxO b.2.2.2.2.1 v fun r =>
  if (decide (r.1 = uid)) = true then
   some true
  else
  go (w64 (v + (1 : Int)))
 else
 some false
def spec_l08HasMail_L1 (b : Box) (uid : Int) : Int → Option (Bool) := fixO (spec_l08HasMail_L1_B b uid)
theorem spec_l08HasMail_L1_eq (b : Box) (uid : Int) (v : Int) : spec_l08HasMail_L1 b uid v = spec_l08HasMail_L1_B b uid (spec_l08HasMail_L1 b uid) v := by
  unfold spec_l08HasMail_L1; refine fixO_eq ?_ ?_ v
  · unfold spec_l08HasMail_L1_B; exact fun _ _ h _ => (le_ite (le_idx fun _ => (le_ite LeO.refl (h _))) LeO.refl)
  · unfold spec_l08HasMail_L1_B; exact fun _ _ h _ => (cp_ite (cp_idx fun _ => (cp_ite CpO.refl (h _))) CpO.refl)
def spec_l08HasMail (b : Box) (uid : Int) : Option (Bool) :=
 spec_l08HasMail_L1 b uid (0 : Int)
def spec_BoxOk_L3_B (t : Box) (v1 : Int) (go1 : Int → Option (Bool)) (r2 : Int × Int) (go2 : Int → Option (Bool)) (v2 : Int) : Option (Bool) :=
 if (decide (v2 < v1)) = true then
  idxO t.2.2.2.2.2.1 v2 fun r3 =>
  if (decide (r3.1 = r2.1)) = true then
   some false
  else
  go2 (w64 (v2 + (1 : Int)))
 else
 if (decide ((0 : Int) < v1)) = true then
  idxO t.2.2.2.2.2.1 (w64 (v1 - (1 : Int))) fun r4 =>
  if (decide (r2.2 < r4.2)) = true then
   some false
  else
  idxO t.2.2.2.2.2.1 (w64 (v1 - (1 : Int))) fun r5 =>
  if (decide (r5.2 = r2.2)) = true then
   idxO t.2.2.2.2.2.1 (w64 (v1 - (1 : Int))) fun r6 =>
   if (decide (r2.1 ≤ r6.1)) = true then
    some false
   else
   go1 (w64 (v1 + (1 : Int)))
  else
  go1 (w64 (v1 + (1 : Int)))
 else
 go1 (w64 (v1 + (1 : Int)))
def spec_BoxOk_L3 (t : Box) (v1 : Int) (go1 : Int → Option (Bool)) (r2 : Int × Int) : Int → Option (Bool) := fixO (spec_BoxOk_L3_B t v1 go1 r2)
theorem spec_BoxOk_L3_eq (t : Box) (v1 : Int) (go1 : Int → Option (Bool)) (r2 : Int × Int) (v2 : Int) : spec_BoxOk_L3 t v1 go1 r2 v2 = spec_BoxOk_L3_B t v1 go1 r2 (spec_BoxOk_L3 t v1 go1 r2) v2 := by
  unfold spec_BoxOk_L3; refine fixO_eq ?_ ?_ v2
  · unfold spec_BoxOk_L3_B; exact fun _ _ h _ => (le_ite (le_idx fun _ => (le_ite LeO.refl (h _))) LeO.refl)
  · unfold spec_BoxOk_L3_B; exact fun _ _ h _ => (cp_ite (cp_idx fun _ => (cp_ite CpO.refl (h _))) CpO.refl)
def spec_BoxOk_L2_B (t : Box) (go1 : Int → Option (Bool)) (v1 : Int) : Option (Bool) :=
 if (decide (v1 < (t.2.2.2.2.2.1.length : Int))) = true then
  idxO t.2.2.2.2.2.1 v1 fun r2 =>
  (spec_l01In r2.1 (1 : Int) (w64 (t.2.2.1 - (1 : Int)))).bind fun t13 =>
  if (!t13) = true then
   some false
  else
  if (decide (r2.2 ≤ t.2.2.2.2.2.2)) = true then
   some false
  else
  if (decide (t.2.2.2.1 < r2.2)) = true then
   some false
  else
  (spec_l08HasMail t r2.1).bind fun t14 =>
  if t14 = true then
   some false
  else
  spec_BoxOk_L3 t v1 go1 r2 (0 : Int)
 else
 some true
def spec_BoxOk_L2 (t : Box) : Int → Option (Bool) := fixO (spec_BoxOk_L2_B t)
theorem spec_BoxOk_L2_eq (t : Box) (v1 : Int) : spec_BoxOk_L2 t v1 = spec_BoxOk_L2_B t (spec_BoxOk_L2 t) v1 := by
  unfold spec_BoxOk_L2; refine fixO_eq ?_ ?_ v1
  · unfold spec_BoxOk_L2_B; exact fun _ _ h _ => (le_ite (le_idx fun _ => (le_bind LeO.refl fun _ => (le_ite LeO.refl (le_ite LeO.refl (le_ite LeO.refl (le_bind LeO.refl fun _ => (le_ite LeO.refl (by unfold spec_BoxOk_L3 spec_BoxOk_L3_B; refine le_fix ?_ ?_ _; exact (fun _ _ h_go2 _ => (le_ite (le_idx fun _ => (le_ite LeO.refl (h_go2 _))) LeO.refl)); exact (fun _ _ h_go2 _ => (le_ite (le_idx fun _ => (le_ite LeO.refl (h_go2 _))) (le_ite (le_idx fun _ => (le_ite LeO.refl (le_idx fun _ => (le_ite (le_idx fun _ => (le_ite LeO.refl (h _))) (h _))))) (h _)))))))))))) LeO.refl)
  · unfold spec_BoxOk_L2_B; exact fun _ _ h _ => (cp_ite (cp_idx fun _ => (cp_bind CpO.refl fun _ => (cp_ite CpO.refl (cp_ite CpO.refl (cp_ite CpO.refl (cp_bind CpO.refl fun _ => (cp_ite CpO.refl (by unfold spec_BoxOk_L3 spec_BoxOk_L3_B; refine cp_fix ?_ ?_ _; exact (fun _ _ _ h_go2 _ => (le_ite (le_idx fun _ => (le_ite LeO.refl (h_go2 _))) LeO.refl)); exact (fun _ _ h_go2 _ => (cp_ite (cp_idx fun _ => (cp_ite CpO.refl (h_go2 _))) (cp_ite (cp_idx fun _ => (cp_ite CpO.refl (cp_idx fun _ => (cp_ite (cp_idx fun _ => (cp_ite CpO.refl (h _))) (h _))))) (h _)))))))))))) CpO.refl)
def spec_BoxOk_L1_B (t : Box) (go : Int → Option (Bool)) (v : Int) : Option (Bool) :=
 if (decide (v < (t.2.2.2.2.1.length : Int))) = true then
  idxO t.2.2.2.2.1 v fun r =>
  (spec_l01In r.1 (1 : Int) (w64 (t.2.2.1 - (1 : Int)))).bind fun t6 =>
  if (!t6) = true then
   some false
  else
  if (decide ((0 : Int) < v)) = true then
   idxO t.2.2.2.2.1 (w64 (v - (1 : Int))) fun r1 =>
   if (decide (r.1 ≤ r1.1)) = true then
    some false
   else
   (spec_FlagsOk r.2.1).bind fun t7 =>
   if (!t7) = true then
    some false
   else
   (spec_l01In r.2.2.1 (1 : Int) t.2.2.2.1).bind fun t8 =>
   if (!t8) = true then
    some false
   else
   (spec_MailOk r.2.2.2).bind fun t9 =>
   if (!t9) = true then
    some false
   else
   go (w64 (v + (1 : Int)))
  else
  (spec_FlagsOk r.2.1).bind fun t10 =>
  if (!t10) = true then
   some false
  else
  (spec_l01In r.2.2.1 (1 : Int) t.2.2.2.1).bind fun t11 =>
  if (!t11) = true then
   some false
  else
  (spec_MailOk r.2.2.2).bind fun t12 =>
  if (!t12) = true then
   some false
  else
  go (w64 (v + (1 : Int)))
 else
 spec_BoxOk_L2 t (0 : Int)
def spec_BoxOk_L1 (t : Box) : Int → Option (Bool) := fixO (spec_BoxOk_L1_B t)
theorem spec_BoxOk_L1_eq (t : Box) (v : Int) : spec_BoxOk_L1 t v = spec_BoxOk_L1_B t (spec_BoxOk_L1 t) v := by
  unfold spec_BoxOk_L1; refine fixO_eq ?_ ?_ v
  · unfold spec_BoxOk_L1_B; exact fun _ _ h _ => (le_ite (le_idx fun _ => (le_bind LeO.refl fun _ => (le_ite LeO.refl (le_ite (le_idx fun _ => (le_ite LeO.refl (le_bind LeO.refl fun _ => (le_ite LeO.refl (le_bind LeO.refl fun _ => (le_ite LeO.refl (le_bind LeO.refl fun _ => (le_ite LeO.refl (h _))))))))) (le_bind LeO.refl fun _ => (le_ite LeO.refl (le_bind LeO.refl fun _ => (le_ite LeO.refl (le_bind LeO.refl fun _ => (le_ite LeO.refl (h _))))))))))) LeO.refl)
  · unfold spec_BoxOk_L1_B; exact fun _ _ h _ => (cp_ite (cp_idx fun _ => (cp_bind CpO.refl fun _ => (cp_ite CpO.refl (cp_ite (cp_idx fun _ => (cp_ite CpO.refl (cp_bind CpO.refl fun _ => (cp_ite CpO.refl (cp_bind CpO.refl fun _ => (cp_ite CpO.refl (cp_bind CpO.refl fun _ => (cp_ite CpO.refl (h _))))))))) (cp_bind CpO.refl fun _ => (cp_ite CpO.refl (cp_bind CpO.refl fun _ => (cp_ite CpO.refl (cp_bind CpO.refl fun _ => (cp_ite CpO.refl (h _))))))))))) CpO.refl)
def spec_BoxOk (t : Box) : Option (Bool) :=
 (spec_BoxName t.1).bind fun t1 =>
 if (!t1) = true then
  some false
 else
 (spec_l01In t.2.1 (1 : Int) (9999 : Int)).bind fun t2 =>
 if (!t2) = true then
  some false
 else
 (spec_l01In t.2.2.1 (1 : Int) (9999 : Int)).bind fun t3 =>
 if (!t3) = true then
  some false
 else
 (spec_l01In t.2.2.2.1 (1 : Int) (100000 : Int)).bind fun t4 =>
 if (!t4) = true then
  some false
 else
 if (decide ((30 : Int) < (t.2.2.2.2.1.length : Int))) = true then
  some false
 else
 if (decide ((40 : Int) < (t.2.2.2.2.2.1.length : Int))) = true then
  some false
 else
 (spec_l01In t.2.2.2.2.2.2 (0 : Int) t.2.2.2.1).bind fun t5 =>
 if (!t5) = true then
  some false
 else
 spec_BoxOk_L1 t (0 : Int)
def spec_AddMail (b : Box) (flags : Int) (text : List UInt8) : Option (Box × Int) :=
 (spec_l08Copy b).bind fun y =>
 (spec_BoxOk b).bind fun t =>
 if (!t) = true then
  some (y, (0 : Int))
 else
 (spec_l08Copy b).bind fun y1 =>
 reqO (y1.2.2.2.2.1.length + [(b.2.2.1, flags, (w64 (b.2.2.2.1 + (1 : Int))), text)].length ≤ bound) <|
 (spec_BoxOk (y1.1, y1.2.1, (w64 (b.2.2.1 + (1 : Int))), (w64 (b.2.2.2.1 + (1 : Int))), (y1.2.2.2.2.1 ++ [(b.2.2.1, flags, (w64 (b.2.2.2.1 + (1 : Int))), text)]), y1.2.2.2.2.2.1, y1.2.2.2.2.2.2)).bind fun t1 =>
 if (!t1) = true then
  some (y, (0 : Int))
 else
 some ((y1.1, y1.2.1, (w64 (b.2.2.1 + (1 : Int))), (w64 (b.2.2.2.1 + (1 : Int))), (y1.2.2.2.2.1 ++ [(b.2.2.1, flags, (w64 (b.2.2.2.1 + (1 : Int))), text)]), y1.2.2.2.2.2.1, y1.2.2.2.2.2.2), b.2.2.1)
def spec_SetHas_L1_B (s : List (Int × Int)) (n : Int) (go : Int → Option (Bool)) (v : Int) : Option (Bool) :=
 if (decide (v < (s.length : Int))) = true then
  idxO s v fun r =>
  if (decide (r.1 ≤ n)) = true then
   idxO s v fun r1 =>
   if (decide (n ≤ r1.2)) = true then
    some true
   else
   go (w64 (v + (1 : Int)))
  else
  go (w64 (v + (1 : Int)))
 else
 some false
def spec_SetHas_L1 (s : List (Int × Int)) (n : Int) : Int → Option (Bool) := fixO (spec_SetHas_L1_B s n)
theorem spec_SetHas_L1_eq (s : List (Int × Int)) (n : Int) (v : Int) : spec_SetHas_L1 s n v = spec_SetHas_L1_B s n (spec_SetHas_L1 s n) v := by
  unfold spec_SetHas_L1; refine fixO_eq ?_ ?_ v
  · unfold spec_SetHas_L1_B; exact fun _ _ h _ => (le_ite (le_idx fun _ => (le_ite (le_idx fun _ => (le_ite LeO.refl (h _))) (h _))) LeO.refl)
  · unfold spec_SetHas_L1_B; exact fun _ _ h _ => (cp_ite (cp_idx fun _ => (cp_ite (cp_idx fun _ => (cp_ite CpO.refl (h _))) (h _))) CpO.refl)
def spec_SetHas (s : List (Int × Int)) (n : Int) : Option (Bool) :=
 spec_SetHas_L1 s n (0 : Int)
def spec_l06And_L1_B (a : Int) (b : Int) (go : (Int × Int) → Option (Int)) (v : Int × Int) : Option (Int) :=
 if (decide (v.2 ≤ (16 : Int))) = true then
  reqO (v.2 ≠ 0) <|
  reqO ((2 : Int) ≠ 0) <|
  if (decide (((w64 (a.tdiv v.2)).tmod (2 : Int)) = (1 : Int))) = true then
   reqO (v.2 ≠ 0) <|
   reqO ((2 : Int) ≠ 0) <|
   if (decide (((w64 (b.tdiv v.2)).tmod (2 : Int)) = (1 : Int))) = true then
    go ((w64 (v.1 + v.2)), (w64 ((2 : Int) * v.2)))
   else
   go (v.1, (w64 ((2 : Int) * v.2)))
  else
  go (v.1, (w64 ((2 : Int) * v.2)))
 else
 some v.1
def spec_l06And_L1 (a : Int) (b : Int) : (Int × Int) → Option (Int) := fixO (spec_l06And_L1_B a b)
theorem spec_l06And_L1_eq (a : Int) (b : Int) (v : Int × Int) : spec_l06And_L1 a b v = spec_l06And_L1_B a b (spec_l06And_L1 a b) v := by
  unfold spec_l06And_L1; refine fixO_eq ?_ ?_ v
  · unfold spec_l06And_L1_B; exact fun _ _ h _ => (le_ite (le_req (le_req (le_ite (le_req (le_req (le_ite (h _) (h _)))) (h _)))) LeO.refl)
  · unfold spec_l06And_L1_B; exact fun _ _ h _ => (cp_ite (cp_req (cp_req (cp_ite (cp_req (cp_req (cp_ite (h _) (h _)))) (h _)))) CpO.refl)
def spec_l06And (a : Int) (b : Int) : Option (Int) :=
 spec_l06And_L1 a b ((0 : Int), (1 : Int))
def spec_FlagsAfter (old : Int) (how : Int) (bits : Int) : Option (Int) :=
 (spec_FlagsOk old).bind fun t =>
 if (!t) = true then
  some old
 else
 (spec_FlagsOk bits).bind fun t1 =>
 if (!t1) = true then
  some old
 else
 if (decide (how = (1 : Int))) = true then
  some bits
 else
 if (decide (how = (2 : Int))) = true then
  (spec_l06And old bits).bind fun n =>
  some (w64 ((w64 (old + bits)) - n))
 else
 if (decide (how = (3 : Int))) = true then
  (spec_l06And old bits).bind fun n1 =>
  some (w64 (old - n1))
 else
 some old
def spec_SetFlags_L1_B (b : Box) (s : List (Int × Int)) (how : Int) (bits : Int) (since : Int) (y : Box) (go : ((List (Int × Int)) × (List (Int × Int)) × Int × Box) → Option (Box × (List (Int × Int)) × (List (Int × Int)))) (v : (List (Int × Int)) × (List (Int × Int)) × Int × Box) : Option (Box × (List (Int × Int)) × (List (Int × Int))) :=
 if (decide (v.2.2.1 < (v.2.2.2.2.2.2.2.1.length : Int))) = true then
  reqO (0 ≤ v.2.2.1 ∧ v.2.2.1 < (v.2.2.2.2.2.2.2.1.length : Int)) <|
  idxO v.2.2.2.2.2.2.2.1 v.2.2.1 fun r =>
  (spec_SetHas s r.1).bind fun t4 =>
  if (!t4) = true then
   go (v.1, v.2.1, (w64 (v.2.2.1 + (1 : Int))), v.2.2.2)
  else
  if (decide ((0 : Int) ≤ since)) = true then
   if (decide (since < r.2.2.1)) = true then
    (spec_SetAdd v.2.1 r.1 r.1).bind fun y2 =>
    go (v.1, y2.1, (w64 (v.2.2.1 + (1 : Int))), v.2.2.2)
   else
   (spec_FlagsAfter r.2.1 how bits).bind fun n =>
   reqO (0 ≤ v.2.2.1 ∧ v.2.2.1 < (v.2.2.2.2.2.2.2.1.length : Int)) <|
   idxO v.2.2.2.2.2.2.2.1 v.2.2.1 fun r1 =>
   if (!decide (n = r1.2.1)) = true then
    reqO (0 ≤ v.2.2.1 ∧ v.2.2.1 < (v.2.2.2.2.2.2.2.1.length : Int)) <|
    (spec_SetAdd v.1 r.1 r.1).bind fun y3 =>
    go (y3.1, v.2.1, (w64 (v.2.2.1 + (1 : Int))), (v.2.2.2.1, v.2.2.2.2.1, v.2.2.2.2.2.1, (w64 (b.2.2.2.1 + (1 : Int))), (v.2.2.2.2.2.2.2.1.set v.2.2.1.toNat (r.1, n, (w64 (b.2.2.2.1 + (1 : Int))), r.2.2.2)), v.2.2.2.2.2.2.2.2.1, v.2.2.2.2.2.2.2.2.2))
   else
   go (v.1, v.2.1, (w64 (v.2.2.1 + (1 : Int))), v.2.2.2)
  else
  (spec_FlagsAfter r.2.1 how bits).bind fun n1 =>
  reqO (0 ≤ v.2.2.1 ∧ v.2.2.1 < (v.2.2.2.2.2.2.2.1.length : Int)) <|
  idxO v.2.2.2.2.2.2.2.1 v.2.2.1 fun r2 =>
  if (!decide (n1 = r2.2.1)) = true then
   reqO (0 ≤ v.2.2.1 ∧ v.2.2.1 < (v.2.2.2.2.2.2.2.1.length : Int)) <|
   (spec_SetAdd v.1 r.1 r.1).bind fun y4 =>
   go (y4.1, v.2.1, (w64 (v.2.2.1 + (1 : Int))), (v.2.2.2.1, v.2.2.2.2.1, v.2.2.2.2.2.1, (w64 (b.2.2.2.1 + (1 : Int))), (v.2.2.2.2.2.2.2.1.set v.2.2.1.toNat (r.1, n1, (w64 (b.2.2.2.1 + (1 : Int))), r.2.2.2)), v.2.2.2.2.2.2.2.2.1, v.2.2.2.2.2.2.2.2.2))
  else
  go (v.1, v.2.1, (w64 (v.2.2.1 + (1 : Int))), v.2.2.2)
 else
 (spec_BoxOk v.2.2.2).bind fun t5 =>
 if (!t5) = true then
  some (y, ([] : List (Int × Int)), ([] : List (Int × Int)))
 else
 some (v.2.2.2, v.1, v.2.1)
def spec_SetFlags_L1 (b : Box) (s : List (Int × Int)) (how : Int) (bits : Int) (since : Int) (y : Box) : ((List (Int × Int)) × (List (Int × Int)) × Int × Box) → Option (Box × (List (Int × Int)) × (List (Int × Int))) := fixO (spec_SetFlags_L1_B b s how bits since y)
theorem spec_SetFlags_L1_eq (b : Box) (s : List (Int × Int)) (how : Int) (bits : Int) (since : Int) (y : Box) (v : (List (Int × Int)) × (List (Int × Int)) × Int × Box) : spec_SetFlags_L1 b s how bits since y v = spec_SetFlags_L1_B b s how bits since y (spec_SetFlags_L1 b s how bits since y) v := by
  unfold spec_SetFlags_L1; refine fixO_eq ?_ ?_ v
  · unfold spec_SetFlags_L1_B; exact fun _ _ h _ => (le_ite (le_req (le_idx fun _ => (le_bind LeO.refl fun _ => (le_ite (h _) (le_ite (le_ite (le_bind LeO.refl fun _ => (h _)) (le_bind LeO.refl fun _ => (le_req (le_idx fun _ => (le_ite (le_req (le_bind LeO.refl fun _ => (h _))) (h _)))))) (le_bind LeO.refl fun _ => (le_req (le_idx fun _ => (le_ite (le_req (le_bind LeO.refl fun _ => (h _))) (h _)))))))))) LeO.refl)
  · unfold spec_SetFlags_L1_B; exact fun _ _ h _ => (cp_ite (cp_req (cp_idx fun _ => (cp_bind CpO.refl fun _ => (cp_ite (h _) (cp_ite (cp_ite (cp_bind CpO.refl fun _ => (h _)) (cp_bind CpO.refl fun _ => (cp_req (cp_idx fun _ => (cp_ite (cp_req (cp_bind CpO.refl fun _ => (h _))) (h _)))))) (cp_bind CpO.refl fun _ => (cp_req (cp_idx fun _ => (cp_ite (cp_req (cp_bind CpO.refl fun _ => (h _))) (h _)))))))))) CpO.refl)
def spec_SetFlags (b : Box) (s : List (Int × Int)) (how : Int) (bits : Int) (since : Int) : Option (Box × (List (Int × Int)) × (List (Int × Int))) :=
 (spec_l08Copy b).bind fun y =>
 (spec_BoxOk b).bind fun t =>
 if (!t) = true then
  some (y, ([] : List (Int × Int)), ([] : List (Int × Int)))
 else
 (spec_SetOk s).bind fun t1 =>
 if (!t1) = true then
  some (y, ([] : List (Int × Int)), ([] : List (Int × Int)))
 else
 (spec_l01In how (1 : Int) (3 : Int)).bind fun t2 =>
 if (!t2) = true then
  some (y, ([] : List (Int × Int)), ([] : List (Int × Int)))
 else
 (spec_FlagsOk bits).bind fun t3 =>
 if (!t3) = true then
  some (y, ([] : List (Int × Int)), ([] : List (Int × Int)))
 else
 (spec_l08Copy b).bind fun y1 =>
 spec_SetFlags_L1 b s how bits since y (([] : List (Int × Int)), ([] : List (Int × Int)), (0 : Int), y1)
def spec_Expunge_L3_B (go1 : Box → Option (Box × (List (Int × Int)))) (go2 : Box → Option (Box × (List (Int × Int)))) (v2 : Box) : Option (Box × (List (Int × Int))) :=
 if (decide ((0 : Int) < (v2.2.2.2.2.2.1.length : Int))) = true then
  reqO (0 ≤ (0 : Int) ∧ (0 : Int) < (v2.2.2.2.2.2.1.length : Int)) <|
  idxO v2.2.2.2.2.2.1 (0 : Int) fun r2 =>
  if (decide (r2.2 ≤ v2.2.2.2.2.2.2)) = true then
   reqO (0 ≤ (1 : Int) ∧ (1 : Int) ≤ (v2.2.2.2.2.2.1.length : Int)) <|
   reqO (([] : List (Int × Int)).length + ((v2.2.2.2.2.2.1.take (v2.2.2.2.2.2.1.length : Int).toNat).drop (1 : Int).toNat).length ≤ bound) <|
   go2 (v2.1, v2.2.1, v2.2.2.1, v2.2.2.2.1, v2.2.2.2.2.1, (([] : List (Int × Int)) ++ ((v2.2.2.2.2.2.1.take (v2.2.2.2.2.2.1.length : Int).toNat).drop (1 : Int).toNat)), v2.2.2.2.2.2.2)
  else
  go1 v2
 else
 go1 v2
def spec_Expunge_L3 (go1 : Box → Option (Box × (List (Int × Int)))) : Box → Option (Box × (List (Int × Int))) := fixO (spec_Expunge_L3_B go1)
theorem spec_Expunge_L3_eq (go1 : Box → Option (Box × (List (Int × Int)))) (v2 : Box) : spec_Expunge_L3 go1 v2 = spec_Expunge_L3_B go1 (spec_Expunge_L3 go1) v2 := by
  unfold spec_Expunge_L3; refine fixO_eq ?_ ?_ v2
  · unfold spec_Expunge_L3_B; exact fun _ _ h _ => (le_ite (le_req (le_idx fun _ => (le_ite (le_req (le_req (h _))) LeO.refl))) LeO.refl)
  · unfold spec_Expunge_L3_B; exact fun _ _ h _ => (cp_ite (cp_req (cp_idx fun _ => (cp_ite (cp_req (cp_req (h _))) CpO.refl))) CpO.refl)
def spec_Expunge_L2_B (y : Box) (v : (List (Int × Int)) × Int × Box) (go1 : Box → Option (Box × (List (Int × Int)))) (v1 : Box) : Option (Box × (List (Int × Int))) :=
 if (decide ((40 : Int) < (v1.2.2.2.2.2.1.length : Int))) = true then
  reqO (0 ≤ (0 : Int) ∧ (0 : Int) < (v1.2.2.2.2.2.1.length : Int)) <|
  idxO v1.2.2.2.2.2.1 (0 : Int) fun r1 =>
  spec_Expunge_L3 go1 (v1.1, v1.2.1, v1.2.2.1, v1.2.2.2.1, v1.2.2.2.2.1, v1.2.2.2.2.2.1, r1.2)
 else
 (spec_BoxOk v1).bind fun t3 =>
 if (!t3) = true then
  some (y, ([] : List (Int × Int)))
 else
 some (v1, v.1)
def spec_Expunge_L2 (y : Box) (v : (List (Int × Int)) × Int × Box) : Box → Option (Box × (List (Int × Int))) := fixO (spec_Expunge_L2_B y v)
theorem spec_Expunge_L2_eq (y : Box) (v : (List (Int × Int)) × Int × Box) (v1 : Box) : spec_Expunge_L2 y v v1 = spec_Expunge_L2_B y v (spec_Expunge_L2 y v) v1 := by
  unfold spec_Expunge_L2; refine fixO_eq ?_ ?_ v1
  · unfold spec_Expunge_L2_B; exact fun _ _ h _ => (le_ite (le_req (le_idx fun _ => (by unfold spec_Expunge_L3 spec_Expunge_L3_B; refine le_fix ?_ ?_ _; exact (fun _ _ h_go2 _ => (le_ite (le_req (le_idx fun _ => (le_ite (le_req (le_req (h_go2 _))) LeO.refl))) LeO.refl)); exact (fun _ _ h_go2 _ => (le_ite (le_req (le_idx fun _ => (le_ite (le_req (le_req (h_go2 _))) (h _)))) (h _)))))) LeO.refl)
  · unfold spec_Expunge_L2_B; exact fun _ _ h _ => (cp_ite (cp_req (cp_idx fun _ => (by unfold spec_Expunge_L3 spec_Expunge_L3_B; refine cp_fix ?_ ?_ _; exact (fun _ _ _ h_go2 _ => (le_ite (le_req (le_idx fun _ => (le_ite (le_req (le_req (h_go2 _))) LeO.refl))) LeO.refl)); exact (fun _ _ h_go2 _ => (cp_ite (cp_req (cp_idx fun _ => (cp_ite (cp_req (cp_req (h_go2 _))) (h _)))) (h _)))))) CpO.refl)
def spec_Expunge_L1_B (b : Box) (s : List (Int × Int)) (y : Box) (go : ((List (Int × Int)) × Int × Box) → Option (Box × (List (Int × Int)))) (v : (List (Int × Int)) × Int × Box) : Option (Box × (List (Int × Int))) :=
 if (decide (v.2.1 < (b.2.2.2.2.1.length : Int))) = true then
  idxO b.2.2.2.2.1 v.2.1 fun r =>
  (spec_SetHas s r.1).bind fun t2 =>
  if t2 = true then
   (spec_l06And r.2.1 (8 : Int)).bind fun n =>
   if (decide ((0 : Int) < n)) = true then
    (spec_SetAdd v.1 r.1 r.1).bind fun y2 =>
    reqO (v.2.2.2.2.2.2.2.1.length + [(r.1, v.2.2.2.2.2.1)].length ≤ bound) <|
    go (y2.1, (w64 (v.2.1 + (1 : Int))), (v.2.2.1, v.2.2.2.1, v.2.2.2.2.1, v.2.2.2.2.2.1, v.2.2.2.2.2.2.1, (v.2.2.2.2.2.2.2.1 ++ [(r.1, v.2.2.2.2.2.1)]), v.2.2.2.2.2.2.2.2))
   else
   reqO (v.2.2.2.2.2.2.1.length + [r].length ≤ bound) <|
   go (v.1, (w64 (v.2.1 + (1 : Int))), (v.2.2.1, v.2.2.2.1, v.2.2.2.2.1, v.2.2.2.2.2.1, (v.2.2.2.2.2.2.1 ++ [r]), v.2.2.2.2.2.2.2.1, v.2.2.2.2.2.2.2.2))
  else
  reqO (v.2.2.2.2.2.2.1.length + [r].length ≤ bound) <|
  go (v.1, (w64 (v.2.1 + (1 : Int))), (v.2.2.1, v.2.2.2.1, v.2.2.2.2.1, v.2.2.2.2.2.1, (v.2.2.2.2.2.2.1 ++ [r]), v.2.2.2.2.2.2.2.1, v.2.2.2.2.2.2.2.2))
 else
 if (decide ((v.1.length : Int) = (0 : Int))) = true then
  some (y, v.1)
 else
 spec_Expunge_L2 y v v.2.2
def spec_Expunge_L1 (b : Box) (s : List (Int × Int)) (y : Box) : ((List (Int × Int)) × Int × Box) → Option (Box × (List (Int × Int))) := fixO (spec_Expunge_L1_B b s y)
theorem spec_Expunge_L1_eq (b : Box) (s : List (Int × Int)) (y : Box) (v : (List (Int × Int)) × Int × Box) : spec_Expunge_L1 b s y v = spec_Expunge_L1_B b s y (spec_Expunge_L1 b s y) v := by
  unfold spec_Expunge_L1; refine fixO_eq ?_ ?_ v
  · unfold spec_Expunge_L1_B; exact fun _ _ h _ => (le_ite (le_idx fun _ => (le_bind LeO.refl fun _ => (le_ite (le_bind LeO.refl fun _ => (le_ite (le_bind LeO.refl fun _ => (le_req (h _))) (le_req (h _)))) (le_req (h _))))) LeO.refl)
  · unfold spec_Expunge_L1_B; exact fun _ _ h _ => (cp_ite (cp_idx fun _ => (cp_bind CpO.refl fun _ => (cp_ite (cp_bind CpO.refl fun _ => (cp_ite (cp_bind CpO.refl fun _ => (cp_req (h _))) (cp_req (h _)))) (cp_req (h _))))) CpO.refl)
def spec_Expunge (b : Box) (s : List (Int × Int)) : Option (Box × (List (Int × Int))) :=
 (spec_l08Copy b).bind fun y =>
 (spec_BoxOk b).bind fun t =>
 if (!t) = true then
  some (y, ([] : List (Int × Int)))
 else
 (spec_SetOk s).bind fun t1 =>
 if (!t1) = true then
  some (y, ([] : List (Int × Int)))
 else
 (spec_l08Copy b).bind fun y1 =>
 spec_Expunge_L1 b s y (([] : List (Int × Int)), (0 : Int), (y1.1, y1.2.1, y1.2.2.1, (w64 (b.2.2.2.1 + (1 : Int))), ([] : List Mail), y1.2.2.2.2.2.1, y1.2.2.2.2.2.2))
def spec_BoxNew (name : List UInt8) (valid : Int) : Option (Box × Bool) :=
 (spec_BoxOk (name, valid, (1 : Int), (1 : Int), ([] : List Mail), ([] : List (Int × Int)), (0 : Int))).bind fun t =>
 if (!t) = true then
  some ((([] : List UInt8), (0 : Int), (0 : Int), (0 : Int), ([] : List Mail), ([] : List (Int × Int)), (0 : Int)), false)
 else
 some ((name, valid, (1 : Int), (1 : Int), ([] : List Mail), ([] : List (Int × Int)), (0 : Int)), true)
def spec_ForgetTombs_L1_B (b : Box) (upto : Int) (go : (Int × Box) → Option (Box)) (v : Int × Box) : Option (Box) :=
 if (decide (v.1 < (b.2.2.2.2.2.1.length : Int))) = true then
  idxO b.2.2.2.2.2.1 v.1 fun r =>
  if (decide (upto < r.2)) = true then
   idxO b.2.2.2.2.2.1 v.1 fun r1 =>
   reqO (v.2.2.2.2.2.2.1.length + [r1].length ≤ bound) <|
   go ((w64 (v.1 + (1 : Int))), (v.2.1, v.2.2.1, v.2.2.2.1, v.2.2.2.2.1, v.2.2.2.2.2.1, (v.2.2.2.2.2.2.1 ++ [r1]), v.2.2.2.2.2.2.2))
  else
  go ((w64 (v.1 + (1 : Int))), v.2)
 else
 if (decide (b.2.2.2.2.2.2 < upto)) = true then
  some (v.2.1, v.2.2.1, v.2.2.2.1, v.2.2.2.2.1, v.2.2.2.2.2.1, v.2.2.2.2.2.2.1, upto)
 else
 some v.2
def spec_ForgetTombs_L1 (b : Box) (upto : Int) : (Int × Box) → Option (Box) := fixO (spec_ForgetTombs_L1_B b upto)
theorem spec_ForgetTombs_L1_eq (b : Box) (upto : Int) (v : Int × Box) : spec_ForgetTombs_L1 b upto v = spec_ForgetTombs_L1_B b upto (spec_ForgetTombs_L1 b upto) v := by
  unfold spec_ForgetTombs_L1; refine fixO_eq ?_ ?_ v
  · unfold spec_ForgetTombs_L1_B; exact fun _ _ h _ => (le_ite (le_idx fun _ => (le_ite (le_idx fun _ => (le_req (h _))) (h _))) LeO.refl)
  · unfold spec_ForgetTombs_L1_B; exact fun _ _ h _ => (cp_ite (cp_idx fun _ => (cp_ite (cp_idx fun _ => (cp_req (h _))) (h _))) CpO.refl)
def spec_ForgetTombs (b : Box) (upto : Int) : Option (Box) :=
 (spec_l08Copy b).bind fun y =>
 (spec_BoxOk b).bind fun t =>
 if (!t) = true then
  some y
 else
 (spec_l01In upto (0 : Int) b.2.2.2.1).bind fun t1 =>
 if (!t1) = true then
  some y
 else
 spec_ForgetTombs_L1 b upto ((0 : Int), (y.1, y.2.1, y.2.2.1, y.2.2.2.1, y.2.2.2.2.1, ([] : List (Int × Int)), y.2.2.2.2.2.2))
def spec_l07Mail (c : L01Cur) : Option (List UInt8 × L01Cur) :=
 (spec_l01Pick c [([32, 104, 101, 108, 108, 111] : List UInt8), ([32, 82, 101, 58, 32, 104, 101, 108, 108, 111] : List UInt8), ([32, 111, 116, 104, 101, 114] : List UInt8), ([32, 102, 119, 100, 58, 32, 82, 69, 58, 32, 32, 72, 101, 108, 108, 111, 32] : List UInt8), ([] : List UInt8), ([32, 110, 101, 119, 115] : List UInt8)]).bind fun y =>
 reqO (([83, 117, 98, 106, 101, 99, 116, 58] : List UInt8).length + y.1.length ≤ 4611686018427387904) <|
 reqO ((([83, 117, 98, 106, 101, 99, 116, 58] : List UInt8) ++ y.1).length + ([10] : List UInt8).length ≤ 4611686018427387904) <|
 (spec_l01Once y.2 (2 : Int)).bind fun y1 =>
 if y1.1 = true then
  reqO (((([83, 117, 98, 106, 101, 99, 116, 58] : List UInt8) ++ y.1) ++ ([10] : List UInt8)).length + ([70, 114, 111, 109, 58, 32] : List UInt8).length ≤ 4611686018427387904) <|
  (spec_l01Pick y1.2 [([97, 110, 110] : List UInt8), ([98, 111, 98] : List UInt8)]).bind fun y2 =>
  reqO ((((([83, 117, 98, 106, 101, 99, 116, 58] : List UInt8) ++ y.1) ++ ([10] : List UInt8)) ++ ([70, 114, 111, 109, 58, 32] : List UInt8)).length + y2.1.length ≤ 4611686018427387904) <|
  reqO (((((([83, 117, 98, 106, 101, 99, 116, 58] : List UInt8) ++ y.1) ++ ([10] : List UInt8)) ++ ([70, 114, 111, 109, 58, 32] : List UInt8)) ++ y2.1).length + ([10] : List UInt8).length ≤ 4611686018427387904) <|
  (spec_l01Once y2.2 (6 : Int)).bind fun y3 =>
  if y3.1 = true then
   some ((((((([83, 117, 98, 106, 101, 99, 116, 58] : List UInt8) ++ y.1) ++ ([10] : List UInt8)) ++ ([70, 114, 111, 109, 58, 32] : List UInt8)) ++ y2.1) ++ ([10] : List UInt8)), y3.2)
  else
  reqO ((((((([83, 117, 98, 106, 101, 99, 116, 58] : List UInt8) ++ y.1) ++ ([10] : List UInt8)) ++ ([70, 114, 111, 109, 58, 32] : List UInt8)) ++ y2.1) ++ ([10] : List UInt8)).length + ([10] : List UInt8).length ≤ 4611686018427387904) <|
  (spec_l01Pick y3.2 [([116, 101, 120, 116] : List UInt8), ([98, 111, 100, 121, 32, 111, 102, 32, 105, 116, 10] : List UInt8), ([] : List UInt8), ([97, 10, 10, 98] : List UInt8)]).bind fun y4 =>
  reqO (((((((([83, 117, 98, 106, 101, 99, 116, 58] : List UInt8) ++ y.1) ++ ([10] : List UInt8)) ++ ([70, 114, 111, 109, 58, 32] : List UInt8)) ++ y2.1) ++ ([10] : List UInt8)) ++ ([10] : List UInt8)).length + y4.1.length ≤ 4611686018427387904) <|
  some ((((((((([83, 117, 98, 106, 101, 99, 116, 58] : List UInt8) ++ y.1) ++ ([10] : List UInt8)) ++ ([70, 114, 111, 109, 58, 32] : List UInt8)) ++ y2.1) ++ ([10] : List UInt8)) ++ ([10] : List UInt8)) ++ y4.1), y4.2)
 else
 (spec_l01Once y1.2 (6 : Int)).bind fun y5 =>
 if y5.1 = true then
  some (((([83, 117, 98, 106, 101, 99, 116, 58] : List UInt8) ++ y.1) ++ ([10] : List UInt8)), y5.2)
 else
 reqO (((([83, 117, 98, 106, 101, 99, 116, 58] : List UInt8) ++ y.1) ++ ([10] : List UInt8)).length + ([10] : List UInt8).length ≤ 4611686018427387904) <|
 (spec_l01Pick y5.2 [([116, 101, 120, 116] : List UInt8), ([98, 111, 100, 121, 32, 111, 102, 32, 105, 116, 10] : List UInt8), ([] : List UInt8), ([97, 10, 10, 98] : List UInt8)]).bind fun y6 =>
 reqO ((((([83, 117, 98, 106, 101, 99, 116, 58] : List UInt8) ++ y.1) ++ ([10] : List UInt8)) ++ ([10] : List UInt8)).length + y6.1.length ≤ 4611686018427387904) <|
 some (((((([83, 117, 98, 106, 101, 99, 116, 58] : List UInt8) ++ y.1) ++ ([10] : List UInt8)) ++ ([10] : List UInt8)) ++ y6.1), y6.2)
def spec_l08Box_L1_B (go : (Int × L01Cur × Box) → Option (Box × L01Cur)) (v : Int × L01Cur × Box) : Option (Box × L01Cur) :=
 (spec_l01Below v.2.1 (16 : Int)).bind fun y3 =>
 if (decide (v.1 < (w64 ((2 : Int) + y3.1)))) = true then
  (spec_l01Below y3.2 (6 : Int)).bind fun y4 =>
  if (decide (y4.1 = (0 : Int))) = true then
   if (decide (y4.1 = (0 : Int))) = true then
    (spec_l01Below y4.2 (32 : Int)).bind fun y5 =>
    (spec_l07Mail y5.2).bind fun y6 =>
    (spec_AddMail v.2.2 y5.1 y6.1).bind fun y7 =>
    go ((w64 (v.1 + (1 : Int))), y6.2, y7.1)
   else
   if (decide (y4.1 = (3 : Int))) = true then
    (spec_l05Draw y4.2).bind fun y8 =>
    (spec_l01Below y8.2 (3 : Int)).bind fun y9 =>
    (spec_l01Below y9.2 (32 : Int)).bind fun y10 =>
    (spec_SetFlags v.2.2 y8.1 (w64 ((1 : Int) + y9.1)) y10.1 (-1 : Int)).bind fun y11 =>
    go ((w64 (v.1 + (1 : Int))), y10.2, y11.1)
   else
   if (decide (y4.1 = (4 : Int))) = true then
    (spec_l05Draw y4.2).bind fun y12 =>
    (spec_Expunge v.2.2 y12.1).bind fun y13 =>
    go ((w64 (v.1 + (1 : Int))), y12.2, y13.1)
   else
   (spec_l01Once y4.2 (3 : Int)).bind fun y14 =>
   if y14.1 = true then
    (spec_l01Below y14.2 (w64 (v.2.2.2.2.2.1 + (1 : Int)))).bind fun y15 =>
    (spec_ForgetTombs v.2.2 y15.1).bind fun y16 =>
    go ((w64 (v.1 + (1 : Int))), y15.2, y16)
   else
   go ((w64 (v.1 + (1 : Int))), y14.2, v.2.2)
  else
  if (decide (y4.1 = (1 : Int))) = true then
   if (decide (y4.1 = (1 : Int))) = true then
    (spec_l01Below y4.2 (32 : Int)).bind fun y17 =>
    (spec_l07Mail y17.2).bind fun y18 =>
    (spec_AddMail v.2.2 y17.1 y18.1).bind fun y19 =>
    go ((w64 (v.1 + (1 : Int))), y18.2, y19.1)
   else
   if (decide (y4.1 = (3 : Int))) = true then
    (spec_l05Draw y4.2).bind fun y20 =>
    (spec_l01Below y20.2 (3 : Int)).bind fun y21 =>
    (spec_l01Below y21.2 (32 : Int)).bind fun y22 =>
    (spec_SetFlags v.2.2 y20.1 (w64 ((1 : Int) + y21.1)) y22.1 (-1 : Int)).bind fun y23 =>
    go ((w64 (v.1 + (1 : Int))), y22.2, y23.1)
   else
   if (decide (y4.1 = (4 : Int))) = true then
    (spec_l05Draw y4.2).bind fun y24 =>
    (spec_Expunge v.2.2 y24.1).bind fun y25 =>
    go ((w64 (v.1 + (1 : Int))), y24.2, y25.1)
   else
   (spec_l01Once y4.2 (3 : Int)).bind fun y26 =>
   if y26.1 = true then
    (spec_l01Below y26.2 (w64 (v.2.2.2.2.2.1 + (1 : Int)))).bind fun y27 =>
    (spec_ForgetTombs v.2.2 y27.1).bind fun y28 =>
    go ((w64 (v.1 + (1 : Int))), y27.2, y28)
   else
   go ((w64 (v.1 + (1 : Int))), y26.2, v.2.2)
  else
  if (decide (y4.1 = (2 : Int))) = true then
   (spec_l01Below y4.2 (32 : Int)).bind fun y29 =>
   (spec_l07Mail y29.2).bind fun y30 =>
   (spec_AddMail v.2.2 y29.1 y30.1).bind fun y31 =>
   go ((w64 (v.1 + (1 : Int))), y30.2, y31.1)
  else
  if (decide (y4.1 = (3 : Int))) = true then
   (spec_l05Draw y4.2).bind fun y32 =>
   (spec_l01Below y32.2 (3 : Int)).bind fun y33 =>
   (spec_l01Below y33.2 (32 : Int)).bind fun y34 =>
   (spec_SetFlags v.2.2 y32.1 (w64 ((1 : Int) + y33.1)) y34.1 (-1 : Int)).bind fun y35 =>
   go ((w64 (v.1 + (1 : Int))), y34.2, y35.1)
  else
  if (decide (y4.1 = (4 : Int))) = true then
   (spec_l05Draw y4.2).bind fun y36 =>
   (spec_Expunge v.2.2 y36.1).bind fun y37 =>
   go ((w64 (v.1 + (1 : Int))), y36.2, y37.1)
  else
  (spec_l01Once y4.2 (3 : Int)).bind fun y38 =>
  if y38.1 = true then
   (spec_l01Below y38.2 (w64 (v.2.2.2.2.2.1 + (1 : Int)))).bind fun y39 =>
   (spec_ForgetTombs v.2.2 y39.1).bind fun y40 =>
   go ((w64 (v.1 + (1 : Int))), y39.2, y40)
  else
  go ((w64 (v.1 + (1 : Int))), y38.2, v.2.2)
 else
 some (v.2.2, y3.2)
def spec_l08Box_L1 : (Int × L01Cur × Box) → Option (Box × L01Cur) := fixO (spec_l08Box_L1_B)
theorem spec_l08Box_L1_eq (v : Int × L01Cur × Box) : spec_l08Box_L1 v = spec_l08Box_L1_B (spec_l08Box_L1) v := by
  unfold spec_l08Box_L1; refine fixO_eq ?_ ?_ v
  · unfold spec_l08Box_L1_B; exact fun _ _ h _ => (le_bind LeO.refl fun _ => (le_ite (le_bind LeO.refl fun _ => (le_ite (le_ite (le_bind LeO.refl fun _ => (le_bind LeO.refl fun _ => (le_bind LeO.refl fun _ => (h _)))) (le_ite (le_bind LeO.refl fun _ => (le_bind LeO.refl fun _ => (le_bind LeO.refl fun _ => (le_bind LeO.refl fun _ => (h _))))) (le_ite (le_bind LeO.refl fun _ => (le_bind LeO.refl fun _ => (h _))) (le_bind LeO.refl fun _ => (le_ite (le_bind LeO.refl fun _ => (le_bind LeO.refl fun _ => (h _))) (h _)))))) (le_ite (le_ite (le_bind LeO.refl fun _ => (le_bind LeO.refl fun _ => (le_bind LeO.refl fun _ => (h _)))) (le_ite (le_bind LeO.refl fun _ => (le_bind LeO.refl fun _ => (le_bind LeO.refl fun _ => (le_bind LeO.refl fun _ => (h _))))) (le_ite (le_bind LeO.refl fun _ => (le_bind LeO.refl fun _ => (h _))) (le_bind LeO.refl fun _ => (le_ite (le_bind LeO.refl fun _ => (le_bind LeO.refl fun _ => (h _))) (h _)))))) (le_ite (le_bind LeO.refl fun _ => (le_bind LeO.refl fun _ => (le_bind LeO.refl fun _ => (h _)))) (le_ite (le_bind LeO.refl fun _ => (le_bind LeO.refl fun _ => (le_bind LeO.refl fun _ => (le_bind LeO.refl fun _ => (h _))))) (le_ite (le_bind LeO.refl fun _ => (le_bind LeO.refl fun _ => (h _))) (le_bind LeO.refl fun _ => (le_ite (le_bind LeO.refl fun _ => (le_bind LeO.refl fun _ => (h _))) (h _))))))))) LeO.refl))
  · unfold spec_l08Box_L1_B; exact fun _ _ h _ => (cp_bind CpO.refl fun _ => (cp_ite (cp_bind CpO.refl fun _ => (cp_ite (cp_ite (cp_bind CpO.refl fun _ => (cp_bind CpO.refl fun _ => (cp_bind CpO.refl fun _ => (h _)))) (cp_ite (cp_bind CpO.refl fun _ => (cp_bind CpO.refl fun _ => (cp_bind CpO.refl fun _ => (cp_bind CpO.refl fun _ => (h _))))) (cp_ite (cp_bind CpO.refl fun _ => (cp_bind CpO.refl fun _ => (h _))) (cp_bind CpO.refl fun _ => (cp_ite (cp_bind CpO.refl fun _ => (cp_bind CpO.refl fun _ => (h _))) (h _)))))) (cp_ite (cp_ite (cp_bind CpO.refl fun _ => (cp_bind CpO.refl fun _ => (cp_bind CpO.refl fun _ => (h _)))) (cp_ite (cp_bind CpO.refl fun _ => (cp_bind CpO.refl fun _ => (cp_bind CpO.refl fun _ => (cp_bind CpO.refl fun _ => (h _))))) (cp_ite (cp_bind CpO.refl fun _ => (cp_bind CpO.refl fun _ => (h _))) (cp_bind CpO.refl fun _ => (cp_ite (cp_bind CpO.refl fun _ => (cp_bind CpO.refl fun _ => (h _))) (h _)))))) (cp_ite (cp_bind CpO.refl fun _ => (cp_bind CpO.refl fun _ => (cp_bind CpO.refl fun _ => (h _)))) (cp_ite (cp_bind CpO.refl fun _ => (cp_bind CpO.refl fun _ => (cp_bind CpO.refl fun _ => (cp_bind CpO.refl fun _ => (h _))))) (cp_ite (cp_bind CpO.refl fun _ => (cp_bind CpO.refl fun _ => (h _))) (cp_bind CpO.refl fun _ => (cp_ite (cp_bind CpO.refl fun _ => (cp_bind CpO.refl fun _ => (h _))) (h _))))))))) CpO.refl))
def spec_l08Box (c : L01Cur) : Option (Box × L01Cur) :=
 (spec_l01Pick c [([105, 110, 98, 111, 120] : List UInt8), ([119, 111, 114, 107] : List UInt8), ([111, 108, 100] : List UInt8)]).bind fun y =>
 (spec_l01Below y.2 (5 : Int)).bind fun y1 =>
 (spec_BoxNew y.1 (w64 ((1 : Int) + y1.1))).bind fun y2 =>
 spec_l08Box_L1 ((0 : Int), y1.2, y2.1)
def spec_l08Any (c : L01Cur) : Option (Box × L01Cur) :=
 (spec_l01Below c (16 : Int)).bind fun y =>
 (spec_l01Below y.2 (60 : Int)).bind fun y1 =>
 (spec_l08Box y1.2).bind fun y2 =>
 (spec_l08Copy y2.1).bind fun y3 =>
 if (decide (y.1 = (0 : Int))) = true then
  reqO ((3 : Int) ≠ 0) <|
  reqO (0 ≤ (y1.1.tmod (3 : Int)) ∧ (y1.1.tmod (3 : Int)) < ([([] : List UInt8), ([65] : List UInt8), ([116, 111, 111, 108, 111, 110, 103, 110, 97, 109, 101] : List UInt8)].length : Int)) <|
  idxO [([] : List UInt8), ([65] : List UInt8), ([116, 111, 111, 108, 111, 110, 103, 110, 97, 109, 101] : List UInt8)] (y1.1.tmod (3 : Int)) fun r =>
  some ((r, y3.2.1, y3.2.2.1, y3.2.2.2.1, y3.2.2.2.2.1, y3.2.2.2.2.2.1, y3.2.2.2.2.2.2), y2.2)
 else
 if (decide (y.1 = (1 : Int))) = true then
  reqO ((9 : Int) ≠ 0) <|
  some ((y3.1, y3.2.1, (y1.1.tmod (9 : Int)), y3.2.2.2.1, y3.2.2.2.2.1, y3.2.2.2.2.2.1, y3.2.2.2.2.2.2), y2.2)
 else
 if (decide (y.1 = (2 : Int))) = true then
  reqO ((4 : Int) ≠ 0) <|
  reqO (0 ≤ (y1.1.tmod (4 : Int)) ∧ (y1.1.tmod (4 : Int)) < ([(0 : Int), (1 : Int), (100000 : Int), (100001 : Int)].length : Int)) <|
  idxO [(0 : Int), (1 : Int), (100000 : Int), (100001 : Int)] (y1.1.tmod (4 : Int)) fun r1 =>
  some ((y3.1, y3.2.1, y3.2.2.1, r1, y3.2.2.2.2.1, y3.2.2.2.2.2.1, y3.2.2.2.2.2.2), y2.2)
 else
 if (decide (y.1 = (3 : Int))) = true then
  if (decide ((0 : Int) < (y3.2.2.2.2.1.length : Int))) = true then
   reqO ((y3.2.2.2.2.1.length : Int) ≠ 0) <|
   reqO ((12 : Int) ≠ 0) <|
   reqO (0 ≤ (y1.1.tmod (y3.2.2.2.2.1.length : Int)) ∧ (y1.1.tmod (y3.2.2.2.2.1.length : Int)) < (y3.2.2.2.2.1.length : Int)) <|
   some ((y3.1, y3.2.1, y3.2.2.1, y3.2.2.2.1, (y3.2.2.2.2.1.modify (y1.1.tmod (y3.2.2.2.2.1.length : Int)).toNat (fun q => ((y1.1.tmod (12 : Int)), q.2.1, q.2.2.1, q.2.2.2))), y3.2.2.2.2.2.1, y3.2.2.2.2.2.2), y2.2)
  else
  some (y3, y2.2)
 else
 if (decide (y.1 = (4 : Int))) = true then
  reqO ((12 : Int) ≠ 0) <|
  reqO ((20 : Int) ≠ 0) <|
  reqO (y3.2.2.2.2.2.1.length + [((y1.1.tmod (12 : Int)), (y1.1.tmod (20 : Int)))].length ≤ bound) <|
  some ((y3.1, y3.2.1, y3.2.2.1, y3.2.2.2.1, y3.2.2.2.2.1, (y3.2.2.2.2.2.1 ++ [((y1.1.tmod (12 : Int)), (y1.1.tmod (20 : Int)))]), y3.2.2.2.2.2.2), y2.2)
 else
 if (decide (y.1 = (5 : Int))) = true then
  reqO ((20 : Int) ≠ 0) <|
  some ((y3.1, y3.2.1, y3.2.2.1, y3.2.2.2.1, y3.2.2.2.2.1, y3.2.2.2.2.2.1, (y1.1.tmod (20 : Int))), y2.2)
 else
 if (decide (y.1 = (6 : Int))) = true then
  reqO ((2 : Int) ≠ 0) <|
  some ((y3.1, y3.2.1, (w64 ((9999 : Int) - (y1.1.tmod (2 : Int)))), y3.2.2.2.1, y3.2.2.2.2.1, y3.2.2.2.2.2.1, y3.2.2.2.2.2.2), y2.2)
 else
 some (y3, y2.2)
def spec_PutBox_L1_B (b : Box) (go : (Int × (List Box × Int) × (List Box × Int)) → Option (List Box × Int)) (v : Int × (List Box × Int) × (List Box × Int)) : Option (List Box × Int) :=
 if (decide (v.1 < (v.2.1.1.length : Int))) = true then
  reqO (0 ≤ v.1 ∧ v.1 < (v.2.1.1.length : Int)) <|
  idxO v.2.1.1 v.1 fun r =>
  if (decide (r.1 = b.1)) = true then
   (spec_l08Copy b).bind fun y1 =>
   reqO (0 ≤ v.1 ∧ v.1 < (v.2.1.1.length : Int)) <|
   some ((v.2.1.1.set v.1.toNat y1), v.2.1.2)
  else
  go ((w64 (v.1 + (1 : Int))), v.2.1, v.2.2)
 else
 some v.2.1
def spec_PutBox_L1 (b : Box) : (Int × (List Box × Int) × (List Box × Int)) → Option (List Box × Int) := fixO (spec_PutBox_L1_B b)
theorem spec_PutBox_L1_eq (b : Box) (v : Int × (List Box × Int) × (List Box × Int)) : spec_PutBox_L1 b v = spec_PutBox_L1_B b (spec_PutBox_L1 b) v := by
  unfold spec_PutBox_L1; refine fixO_eq ?_ ?_ v
  · unfold spec_PutBox_L1_B; exact fun _ _ h _ => (le_ite (le_req (le_idx fun _ => (le_ite LeO.refl (h _)))) LeO.refl)
  · unfold spec_PutBox_L1_B; exact fun _ _ h _ => (cp_ite (cp_req (cp_idx fun _ => (cp_ite CpO.refl (h _)))) CpO.refl)
def spec_PutBox (s : List Box × Int) (b : Box) : Option (List Box × Int) :=
 (spec_l09Copy s).bind fun y =>
 spec_PutBox_L1 b ((0 : Int), y, (([] : List Box), (0 : Int)))
def spec_StoreOk_L1_B (s : List Box × Int) (go : Int → Option (Bool)) (v : Int) : Option (Bool) :=
 if (decide (v < (s.1.length : Int))) = true then
  idxO s.1 v fun r =>
  (spec_BoxOk r).bind fun t =>
  if (!t) = true then
   some false
  else
  if (decide ((0 : Int) < v)) = true then
   idxO s.1 (w64 (v - (1 : Int))) fun r1 =>
   idxO s.1 v fun r2 =>
   if (!(Op.bytesLess r1.1 r2.1)) = true then
    some false
   else
   idxO s.1 v fun r3 =>
   if (decide (s.2 ≤ r3.2.1)) = true then
    some false
   else
   go (w64 (v + (1 : Int)))
  else
  idxO s.1 v fun r4 =>
  if (decide (s.2 ≤ r4.2.1)) = true then
   some false
  else
  go (w64 (v + (1 : Int)))
 else
 (spec_l01In (s.1.length : Int) (1 : Int) (4 : Int)).bind fun t1 =>
 if t1 = true then
  (spec_l01In s.2 (2 : Int) (9999 : Int)).bind fun t2 =>
  some t2
 else
 some false
def spec_StoreOk_L1 (s : List Box × Int) : Int → Option (Bool) := fixO (spec_StoreOk_L1_B s)
theorem spec_StoreOk_L1_eq (s : List Box × Int) (v : Int) : spec_StoreOk_L1 s v = spec_StoreOk_L1_B s (spec_StoreOk_L1 s) v := by
  unfold spec_StoreOk_L1; refine fixO_eq ?_ ?_ v
  · unfold spec_StoreOk_L1_B; exact fun _ _ h _ => (le_ite (le_idx fun _ => (le_bind LeO.refl fun _ => (le_ite LeO.refl (le_ite (le_idx fun _ => (le_idx fun _ => (le_ite LeO.refl (le_idx fun _ => (le_ite LeO.refl (h _)))))) (le_idx fun _ => (le_ite LeO.refl (h _))))))) LeO.refl)
  · unfold spec_StoreOk_L1_B; exact fun _ _ h _ => (cp_ite (cp_idx fun _ => (cp_bind CpO.refl fun _ => (cp_ite CpO.refl (cp_ite (cp_idx fun _ => (cp_idx fun _ => (cp_ite CpO.refl (cp_idx fun _ => (cp_ite CpO.refl (h _)))))) (cp_idx fun _ => (cp_ite CpO.refl (h _))))))) CpO.refl)
def spec_StoreOk (s : List Box × Int) : Option (Bool) :=
 spec_StoreOk_L1 s (0 : Int)
def spec_BoxAt_L1_B (s : List Box × Int) (name : List UInt8) (go : (Int × Box) → Option (Box × Bool)) (v : Int × Box) : Option (Box × Bool) :=
 if (decide (v.1 < (s.1.length : Int))) = true then
  idxO s.1 v.1 fun r =>
  if (decide (r.1 = name)) = true then
   idxO s.1 v.1 fun r1 =>
   (spec_l08Copy r1).bind fun y =>
   some (y, true)
  else
  go ((w64 (v.1 + (1 : Int))), v.2)
 else
 some ((([] : List UInt8), (0 : Int), (0 : Int), (0 : Int), ([] : List Mail), ([] : List (Int × Int)), (0 : Int)), false)
def spec_BoxAt_L1 (s : List Box × Int) (name : List UInt8) : (Int × Box) → Option (Box × Bool) := fixO (spec_BoxAt_L1_B s name)
theorem spec_BoxAt_L1_eq (s : List Box × Int) (name : List UInt8) (v : Int × Box) : spec_BoxAt_L1 s name v = spec_BoxAt_L1_B s name (spec_BoxAt_L1 s name) v := by
  unfold spec_BoxAt_L1; refine fixO_eq ?_ ?_ v
  · unfold spec_BoxAt_L1_B; exact fun _ _ h _ => (le_ite (le_idx fun _ => (le_ite LeO.refl (h _))) LeO.refl)
  · unfold spec_BoxAt_L1_B; exact fun _ _ h _ => (cp_ite (cp_idx fun _ => (cp_ite CpO.refl (h _))) CpO.refl)
def spec_BoxAt (s : List Box × Int) (name : List UInt8) : Option (Box × Bool) :=
 spec_BoxAt_L1 s name ((0 : Int), (([] : List UInt8), (0 : Int), (0 : Int), (0 : Int), ([] : List Mail), ([] : List (Int × Int)), (0 : Int)))
def spec_CopyMails_L1_B (s : List Box × Int) (set0 : List (Int × Int)) (y : List Box × Int) (y1 : Box × Bool) (go : (Int × (List Box × Int) × Box) → Option ((List Box × Int) × Int)) (v : Int × (List Box × Int) × Box) : Option ((List Box × Int) × Int) :=
 if (decide (v.1 < (y1.1.2.2.2.2.1.length : Int))) = true then
  reqO (0 ≤ v.1 ∧ v.1 < (y1.1.2.2.2.2.1.length : Int)) <|
  idxO y1.1.2.2.2.2.1 v.1 fun r =>
  (spec_SetHas set0 r.1).bind fun t2 =>
  if (!t2) = true then
   go ((w64 (v.1 + (1 : Int))), v.2.1, v.2.2)
  else
  reqO (0 ≤ v.1 ∧ v.1 < (y1.1.2.2.2.2.1.length : Int)) <|
  idxO y1.1.2.2.2.2.1 v.1 fun r1 =>
  reqO (0 ≤ v.1 ∧ v.1 < (y1.1.2.2.2.2.1.length : Int)) <|
  idxO y1.1.2.2.2.2.1 v.1 fun r2 =>
  (spec_AddMail v.2.2 r1.2.1 r2.2.2.2).bind fun y3 =>
  if (decide (y3.2 = (0 : Int))) = true then
   some (y, (3 : Int))
  else
  go ((w64 (v.1 + (1 : Int))), v.2.1, y3.1)
 else
 (spec_PutBox s v.2.2).bind fun y4 =>
 some (y4, (0 : Int))
def spec_CopyMails_L1 (s : List Box × Int) (set0 : List (Int × Int)) (y : List Box × Int) (y1 : Box × Bool) : (Int × (List Box × Int) × Box) → Option ((List Box × Int) × Int) := fixO (spec_CopyMails_L1_B s set0 y y1)
theorem spec_CopyMails_L1_eq (s : List Box × Int) (set0 : List (Int × Int)) (y : List Box × Int) (y1 : Box × Bool) (v : Int × (List Box × Int) × Box) : spec_CopyMails_L1 s set0 y y1 v = spec_CopyMails_L1_B s set0 y y1 (spec_CopyMails_L1 s set0 y y1) v := by
  unfold spec_CopyMails_L1; refine fixO_eq ?_ ?_ v
  · unfold spec_CopyMails_L1_B; exact fun _ _ h _ => (le_ite (le_req (le_idx fun _ => (le_bind LeO.refl fun _ => (le_ite (h _) (le_req (le_idx fun _ => (le_req (le_idx fun _ => (le_bind LeO.refl fun _ => (le_ite LeO.refl (h _))))))))))) LeO.refl)
  · unfold spec_CopyMails_L1_B; exact fun _ _ h _ => (cp_ite (cp_req (cp_idx fun _ => (cp_bind CpO.refl fun _ => (cp_ite (h _) (cp_req (cp_idx fun _ => (cp_req (cp_idx fun _ => (cp_bind CpO.refl fun _ => (cp_ite CpO.refl (h _))))))))))) CpO.refl)
def spec_CopyMails (s : List Box × Int) (from0 : List UInt8) (set0 : List (Int × Int)) (to : List UInt8) : Option ((List Box × Int) × Int) :=
 (spec_l09Copy s).bind fun y =>
 (spec_StoreOk s).bind fun t =>
 if (!t) = true then
  some (y, (4 : Int))
 else
 (spec_SetOk set0).bind fun t1 =>
 if (!t1) = true then
  some (y, (4 : Int))
 else
 (spec_BoxAt s from0).bind fun y1 =>
 (spec_BoxAt s to).bind fun y2 =>
 if (!y1.2) = true then
  some (y, (1 : Int))
 else
 if (!y2.2) = true then
  some (y, (1 : Int))
 else
 spec_CopyMails_L1 s set0 y y1 ((0 : Int), (([] : List Box), (0 : Int)), y2.1)
def spec_SetSize_L1_B (s : List (Int × Int)) (go : (Int × Int) → Option (Int)) (v : Int × Int) : Option (Int) :=
 if (decide (v.2 < (s.length : Int))) = true then
  idxO s v.2 fun r =>
  idxO s v.2 fun r1 =>
  go ((w64 ((w64 ((w64 (v.1 + r.2)) - r1.1)) + (1 : Int))), (w64 (v.2 + (1 : Int))))
 else
 some v.1
def spec_SetSize_L1 (s : List (Int × Int)) : (Int × Int) → Option (Int) := fixO (spec_SetSize_L1_B s)
theorem spec_SetSize_L1_eq (s : List (Int × Int)) (v : Int × Int) : spec_SetSize_L1 s v = spec_SetSize_L1_B s (spec_SetSize_L1 s) v := by
  unfold spec_SetSize_L1; refine fixO_eq ?_ ?_ v
  · unfold spec_SetSize_L1_B; exact fun _ _ h _ => (le_ite (le_idx fun _ => (le_idx fun _ => (h _))) LeO.refl)
  · unfold spec_SetSize_L1_B; exact fun _ _ h _ => (cp_ite (cp_idx fun _ => (cp_idx fun _ => (h _))) CpO.refl)
def spec_SetSize (s : List (Int × Int)) : Option (Int) :=
 (spec_SetOk s).bind fun t =>
 if (!t) = true then
  some (0 : Int)
 else
 spec_SetSize_L1 s ((0 : Int), (0 : Int))
def spec_MoveMails_L1_B (set0 : List (Int × Int)) (y : List Box × Int) (y1 : (List Box × Int) × Int) (y2 : Box × Bool) (go : (Int × Int) → Option ((List Box × Int) × Int)) (v : Int × Int) : Option ((List Box × Int) × Int) :=
 if (decide (v.2 < (y2.1.2.2.2.2.1.length : Int))) = true then
  reqO (0 ≤ v.2 ∧ v.2 < (y2.1.2.2.2.2.1.length : Int)) <|
  idxO y2.1.2.2.2.2.1 v.2 fun r =>
  (spec_SetHas set0 r.1).bind fun t =>
  if t = true then
   go ((w64 (v.1 + (1 : Int))), (w64 (v.2 + (1 : Int))))
  else
  go (v.1, (w64 (v.2 + (1 : Int))))
 else
 (spec_SetFlags y2.1 set0 (2 : Int) (8 : Int) (-1 : Int)).bind fun y3 =>
 (spec_Expunge y3.1 set0).bind fun y4 =>
 (spec_SetSize y4.2).bind fun n =>
 if (!decide (n = v.1)) = true then
  some (y, (3 : Int))
 else
 (spec_PutBox y1.1 y4.1).bind fun y5 =>
 some (y5, (0 : Int))
def spec_MoveMails_L1 (set0 : List (Int × Int)) (y : List Box × Int) (y1 : (List Box × Int) × Int) (y2 : Box × Bool) : (Int × Int) → Option ((List Box × Int) × Int) := fixO (spec_MoveMails_L1_B set0 y y1 y2)
theorem spec_MoveMails_L1_eq (set0 : List (Int × Int)) (y : List Box × Int) (y1 : (List Box × Int) × Int) (y2 : Box × Bool) (v : Int × Int) : spec_MoveMails_L1 set0 y y1 y2 v = spec_MoveMails_L1_B set0 y y1 y2 (spec_MoveMails_L1 set0 y y1 y2) v := by
  unfold spec_MoveMails_L1; refine fixO_eq ?_ ?_ v
  · unfold spec_MoveMails_L1_B; exact fun _ _ h _ => (le_ite (le_req (le_idx fun _ => (le_bind LeO.refl fun _ => (le_ite (h _) (h _))))) LeO.refl)
  · unfold spec_MoveMails_L1_B; exact fun _ _ h _ => (cp_ite (cp_req (cp_idx fun _ => (cp_bind CpO.refl fun _ => (cp_ite (h _) (h _))))) CpO.refl)
def spec_MoveMails (s : List Box × Int) (from0 : List UInt8) (set0 : List (Int × Int)) (to : List UInt8) : Option ((List Box × Int) × Int) :=
 (spec_l09Copy s).bind fun y =>
 if (decide (from0 = to)) = true then
  some (y, (4 : Int))
 else
 (spec_CopyMails s from0 set0 to).bind fun y1 =>
 if (!decide (y1.2 = (0 : Int))) = true then
  some (y, y1.2)
 else
 (spec_BoxAt y1.1 from0).bind fun y2 =>
 spec_MoveMails_L1 set0 y y1 y2 ((0 : Int), (0 : Int))
def spec_MakeBox_L2_B (name : List UInt8) (y : List Box × Int) (go1 : (Int × (List Box × Int)) → Option ((List Box × Int) × Int)) (v1 : Int × (List Box × Int)) : Option ((List Box × Int) × Int) :=
 if (decide (v1.1 < (y.1.length : Int))) = true then
  reqO (0 ≤ v1.1 ∧ v1.1 < (y.1.length : Int)) <|
  idxO y.1 v1.1 fun r2 =>
  if (!(Op.bytesLess r2.1 name || decide (r2.1 = name))) = true then
   reqO (0 ≤ v1.1 ∧ v1.1 < (y.1.length : Int)) <|
   idxO y.1 v1.1 fun r3 =>
   reqO (v1.2.1.length + [r3].length ≤ bound) <|
   go1 ((w64 (v1.1 + (1 : Int))), ((v1.2.1 ++ [r3]), v1.2.2))
  else
  go1 ((w64 (v1.1 + (1 : Int))), v1.2)
 else
 some (v1.2, (0 : Int))
def spec_MakeBox_L2 (name : List UInt8) (y : List Box × Int) : (Int × (List Box × Int)) → Option ((List Box × Int) × Int) := fixO (spec_MakeBox_L2_B name y)
theorem spec_MakeBox_L2_eq (name : List UInt8) (y : List Box × Int) (v1 : Int × (List Box × Int)) : spec_MakeBox_L2 name y v1 = spec_MakeBox_L2_B name y (spec_MakeBox_L2 name y) v1 := by
  unfold spec_MakeBox_L2; refine fixO_eq ?_ ?_ v1
  · unfold spec_MakeBox_L2_B; exact fun _ _ h _ => (le_ite (le_req (le_idx fun _ => (le_ite (le_req (le_idx fun _ => (le_req (h _)))) (h _)))) LeO.refl)
  · unfold spec_MakeBox_L2_B; exact fun _ _ h _ => (cp_ite (cp_req (cp_idx fun _ => (cp_ite (cp_req (cp_idx fun _ => (cp_req (h _)))) (h _)))) CpO.refl)
def spec_MakeBox_L1_B (name : List UInt8) (y : List Box × Int) (y2 : Box × Bool) (go : (Int × (List Box × Int)) → Option ((List Box × Int) × Int)) (v : Int × (List Box × Int)) : Option ((List Box × Int) × Int) :=
 if (decide (v.1 < (y.1.length : Int))) = true then
  reqO (0 ≤ v.1 ∧ v.1 < (y.1.length : Int)) <|
  idxO y.1 v.1 fun r =>
  if (Op.bytesLess r.1 name) = true then
   reqO (0 ≤ v.1 ∧ v.1 < (y.1.length : Int)) <|
   idxO y.1 v.1 fun r1 =>
   reqO (v.2.1.length + [r1].length ≤ bound) <|
   go ((w64 (v.1 + (1 : Int))), ((v.2.1 ++ [r1]), v.2.2))
  else
  go ((w64 (v.1 + (1 : Int))), v.2)
 else
 reqO (v.2.1.length + [y2.1].length ≤ bound) <|
 spec_MakeBox_L2 name y ((0 : Int), ((v.2.1 ++ [y2.1]), v.2.2))
def spec_MakeBox_L1 (name : List UInt8) (y : List Box × Int) (y2 : Box × Bool) : (Int × (List Box × Int)) → Option ((List Box × Int) × Int) := fixO (spec_MakeBox_L1_B name y y2)
theorem spec_MakeBox_L1_eq (name : List UInt8) (y : List Box × Int) (y2 : Box × Bool) (v : Int × (List Box × Int)) : spec_MakeBox_L1 name y y2 v = spec_MakeBox_L1_B name y y2 (spec_MakeBox_L1 name y y2) v := by
  unfold spec_MakeBox_L1; refine fixO_eq ?_ ?_ v
  · unfold spec_MakeBox_L1_B; exact fun _ _ h _ => (le_ite (le_req (le_idx fun _ => (le_ite (le_req (le_idx fun _ => (le_req (h _)))) (h _)))) LeO.refl)
  · unfold spec_MakeBox_L1_B; exact fun _ _ h _ => (cp_ite (cp_req (cp_idx fun _ => (cp_ite (cp_req (cp_idx fun _ => (cp_req (h _)))) (h _)))) CpO.refl)
def spec_MakeBox (s : List Box × Int) (name : List UInt8) : Option ((List Box × Int) × Int) :=
 (spec_l09Copy s).bind fun y =>
 (spec_StoreOk s).bind fun t =>
 if (!t) = true then
  some (y, (4 : Int))
 else
 (spec_BoxName name).bind fun t1 =>
 if (!t1) = true then
  some (y, (4 : Int))
 else
 (spec_BoxAt s name).bind fun y1 =>
 if y1.2 = true then
  some (y, (2 : Int))
 else
 if (decide ((4 : Int) ≤ (s.1.length : Int))) = true then
  some (y, (3 : Int))
 else
 if (decide ((9999 : Int) ≤ s.2)) = true then
  some (y, (3 : Int))
 else
 (spec_BoxNew name s.2).bind fun y2 =>
 spec_MakeBox_L1 name y y2 ((0 : Int), (([] : List Box), (w64 (s.2 + (1 : Int)))))
def spec_DropBox_L1_B (name : List UInt8) (y : List Box × Int) (go : (Int × (List Box × Int)) → Option ((List Box × Int) × Int)) (v : Int × (List Box × Int)) : Option ((List Box × Int) × Int) :=
 if (decide (v.1 < (y.1.length : Int))) = true then
  reqO (0 ≤ v.1 ∧ v.1 < (y.1.length : Int)) <|
  idxO y.1 v.1 fun r =>
  if (!decide (r.1 = name)) = true then
   reqO (0 ≤ v.1 ∧ v.1 < (y.1.length : Int)) <|
   idxO y.1 v.1 fun r1 =>
   reqO (v.2.1.length + [r1].length ≤ bound) <|
   go ((w64 (v.1 + (1 : Int))), ((v.2.1 ++ [r1]), v.2.2))
  else
  go ((w64 (v.1 + (1 : Int))), v.2)
 else
 if (decide ((v.2.1.length : Int) = (0 : Int))) = true then
  some (y, (4 : Int))
 else
 some (v.2, (0 : Int))
def spec_DropBox_L1 (name : List UInt8) (y : List Box × Int) : (Int × (List Box × Int)) → Option ((List Box × Int) × Int) := fixO (spec_DropBox_L1_B name y)
theorem spec_DropBox_L1_eq (name : List UInt8) (y : List Box × Int) (v : Int × (List Box × Int)) : spec_DropBox_L1 name y v = spec_DropBox_L1_B name y (spec_DropBox_L1 name y) v := by
  unfold spec_DropBox_L1; refine fixO_eq ?_ ?_ v
  · unfold spec_DropBox_L1_B; exact fun _ _ h _ => (le_ite (le_req (le_idx fun _ => (le_ite (le_req (le_idx fun _ => (le_req (h _)))) (h _)))) LeO.refl)
  · unfold spec_DropBox_L1_B; exact fun _ _ h _ => (cp_ite (cp_req (cp_idx fun _ => (cp_ite (cp_req (cp_idx fun _ => (cp_req (h _)))) (h _)))) CpO.refl)
def spec_DropBox (s : List Box × Int) (name : List UInt8) : Option ((List Box × Int) × Int) :=
 (spec_l09Copy s).bind fun y =>
 (spec_StoreOk s).bind fun t =>
 if (!t) = true then
  some (y, (4 : Int))
 else
 if (decide (name = ([105, 110, 98, 111, 120] : List UInt8))) = true then
  some (y, (4 : Int))
 else
 (spec_BoxAt s name).bind fun y1 =>
 if (!y1.2) = true then
  some (y, (1 : Int))
 else
 spec_DropBox_L1 name y ((0 : Int), (([] : List Box), s.2))
def spec_l10Uses (e : Edit) : Option (Bool) :=
 if (decide (e.1 = (6 : Int))) = true then
  if (decide (e.1 = (4 : Int))) = true then
   if (decide (e.1 = (4 : Int))) = true then
    if (decide (e.1 = (4 : Int))) = true then
     if (decide (e.1 = (3 : Int))) = true then
      some true
     else
     some (decide (e.2.2.2.2.2.2.2 = ([] : List UInt8)))
    else
    if (decide (e.1 = (3 : Int))) = true then
     if (decide (e.1 = (3 : Int))) = true then
      some true
     else
     some (decide (e.2.2.2.2.2.2.2 = ([] : List UInt8)))
    else
    if (decide (e.2.2.2.2.2.1 = (0 : Int))) = true then
     if (decide (e.1 = (3 : Int))) = true then
      some true
     else
     some (decide (e.2.2.2.2.2.2.2 = ([] : List UInt8)))
    else
    some false
   else
   if (decide (e.2.2.2.2.1 = (0 : Int))) = true then
    if (decide (e.1 = (4 : Int))) = true then
     if (decide (e.1 = (3 : Int))) = true then
      some true
     else
     some (decide (e.2.2.2.2.2.2.2 = ([] : List UInt8)))
    else
    if (decide (e.1 = (3 : Int))) = true then
     if (decide (e.1 = (3 : Int))) = true then
      some true
     else
     some (decide (e.2.2.2.2.2.2.2 = ([] : List UInt8)))
    else
    if (decide (e.2.2.2.2.2.1 = (0 : Int))) = true then
     if (decide (e.1 = (3 : Int))) = true then
      some true
     else
     some (decide (e.2.2.2.2.2.2.2 = ([] : List UInt8)))
    else
    some false
   else
   some false
  else
  if (decide (e.1 = (4 : Int))) = true then
   if (decide (e.1 = (4 : Int))) = true then
    if (decide (e.1 = (8 : Int))) = true then
     if (decide (e.1 = (3 : Int))) = true then
      some true
     else
     some (decide (e.2.2.2.2.2.2.2 = ([] : List UInt8)))
    else
    if (decide (e.2.2.2.2.2.2.1 = (0 : Int))) = true then
     if (decide (e.1 = (3 : Int))) = true then
      some true
     else
     some (decide (e.2.2.2.2.2.2.2 = ([] : List UInt8)))
    else
    some false
   else
   if (decide (e.1 = (3 : Int))) = true then
    if (decide (e.1 = (8 : Int))) = true then
     if (decide (e.1 = (3 : Int))) = true then
      some true
     else
     some (decide (e.2.2.2.2.2.2.2 = ([] : List UInt8)))
    else
    if (decide (e.2.2.2.2.2.2.1 = (0 : Int))) = true then
     if (decide (e.1 = (3 : Int))) = true then
      some true
     else
     some (decide (e.2.2.2.2.2.2.2 = ([] : List UInt8)))
    else
    some false
   else
   if (decide (e.2.2.2.2.2.1 = (0 : Int))) = true then
    if (decide (e.1 = (8 : Int))) = true then
     if (decide (e.1 = (3 : Int))) = true then
      some true
     else
     some (decide (e.2.2.2.2.2.2.2 = ([] : List UInt8)))
    else
    if (decide (e.2.2.2.2.2.2.1 = (0 : Int))) = true then
     if (decide (e.1 = (3 : Int))) = true then
      some true
     else
     some (decide (e.2.2.2.2.2.2.2 = ([] : List UInt8)))
    else
    some false
   else
   some false
  else
  if (decide (e.2.2.2.2.1 = (0 : Int))) = true then
   if (decide (e.1 = (4 : Int))) = true then
    if (decide (e.1 = (8 : Int))) = true then
     if (decide (e.1 = (3 : Int))) = true then
      some true
     else
     some (decide (e.2.2.2.2.2.2.2 = ([] : List UInt8)))
    else
    if (decide (e.2.2.2.2.2.2.1 = (0 : Int))) = true then
     if (decide (e.1 = (3 : Int))) = true then
      some true
     else
     some (decide (e.2.2.2.2.2.2.2 = ([] : List UInt8)))
    else
    some false
   else
   if (decide (e.1 = (3 : Int))) = true then
    if (decide (e.1 = (8 : Int))) = true then
     if (decide (e.1 = (3 : Int))) = true then
      some true
     else
     some (decide (e.2.2.2.2.2.2.2 = ([] : List UInt8)))
    else
    if (decide (e.2.2.2.2.2.2.1 = (0 : Int))) = true then
     if (decide (e.1 = (3 : Int))) = true then
      some true
     else
     some (decide (e.2.2.2.2.2.2.2 = ([] : List UInt8)))
    else
    some false
   else
   if (decide (e.2.2.2.2.2.1 = (0 : Int))) = true then
    if (decide (e.1 = (8 : Int))) = true then
     if (decide (e.1 = (3 : Int))) = true then
      some true
     else
     some (decide (e.2.2.2.2.2.2.2 = ([] : List UInt8)))
    else
    if (decide (e.2.2.2.2.2.2.1 = (0 : Int))) = true then
     if (decide (e.1 = (3 : Int))) = true then
      some true
     else
     some (decide (e.2.2.2.2.2.2.2 = ([] : List UInt8)))
    else
    some false
   else
   some false
  else
  some false
 else
 if (decide (e.1 = (7 : Int))) = true then
  if (decide (e.1 = (4 : Int))) = true then
   if (decide (e.1 = (7 : Int))) = true then
    if (decide (e.1 = (4 : Int))) = true then
     if (decide (e.1 = (4 : Int))) = true then
      if (decide (e.1 = (3 : Int))) = true then
       some true
      else
      some (decide (e.2.2.2.2.2.2.2 = ([] : List UInt8)))
     else
     if (decide (e.1 = (3 : Int))) = true then
      if (decide (e.1 = (3 : Int))) = true then
       some true
      else
      some (decide (e.2.2.2.2.2.2.2 = ([] : List UInt8)))
     else
     if (decide (e.2.2.2.2.2.1 = (0 : Int))) = true then
      if (decide (e.1 = (3 : Int))) = true then
       some true
      else
      some (decide (e.2.2.2.2.2.2.2 = ([] : List UInt8)))
     else
     some false
    else
    if (decide (e.2.2.2.2.1 = (0 : Int))) = true then
     if (decide (e.1 = (4 : Int))) = true then
      if (decide (e.1 = (3 : Int))) = true then
       some true
      else
      some (decide (e.2.2.2.2.2.2.2 = ([] : List UInt8)))
     else
     if (decide (e.1 = (3 : Int))) = true then
      if (decide (e.1 = (3 : Int))) = true then
       some true
      else
      some (decide (e.2.2.2.2.2.2.2 = ([] : List UInt8)))
     else
     if (decide (e.2.2.2.2.2.1 = (0 : Int))) = true then
      if (decide (e.1 = (3 : Int))) = true then
       some true
      else
      some (decide (e.2.2.2.2.2.2.2 = ([] : List UInt8)))
     else
     some false
    else
    some false
   else
   if (decide (e.2.2.1 = ([] : List UInt8))) = true then
    if (decide (e.1 = (4 : Int))) = true then
     if (decide (e.1 = (4 : Int))) = true then
      if (decide (e.1 = (3 : Int))) = true then
       some true
      else
      some (decide (e.2.2.2.2.2.2.2 = ([] : List UInt8)))
     else
     if (decide (e.1 = (3 : Int))) = true then
      if (decide (e.1 = (3 : Int))) = true then
       some true
      else
      some (decide (e.2.2.2.2.2.2.2 = ([] : List UInt8)))
     else
     if (decide (e.2.2.2.2.2.1 = (0 : Int))) = true then
      if (decide (e.1 = (3 : Int))) = true then
       some true
      else
      some (decide (e.2.2.2.2.2.2.2 = ([] : List UInt8)))
     else
     some false
    else
    if (decide (e.2.2.2.2.1 = (0 : Int))) = true then
     if (decide (e.1 = (4 : Int))) = true then
      if (decide (e.1 = (3 : Int))) = true then
       some true
      else
      some (decide (e.2.2.2.2.2.2.2 = ([] : List UInt8)))
     else
     if (decide (e.1 = (3 : Int))) = true then
      if (decide (e.1 = (3 : Int))) = true then
       some true
      else
      some (decide (e.2.2.2.2.2.2.2 = ([] : List UInt8)))
     else
     if (decide (e.2.2.2.2.2.1 = (0 : Int))) = true then
      if (decide (e.1 = (3 : Int))) = true then
       some true
      else
      some (decide (e.2.2.2.2.2.2.2 = ([] : List UInt8)))
     else
     some false
    else
    some false
   else
   some false
  else
  if (decide (e.1 = (7 : Int))) = true then
   if (decide (e.1 = (4 : Int))) = true then
    if (decide (e.1 = (4 : Int))) = true then
     if (decide (e.1 = (8 : Int))) = true then
      if (decide (e.1 = (3 : Int))) = true then
       some true
      else
      some (decide (e.2.2.2.2.2.2.2 = ([] : List UInt8)))
     else
     if (decide (e.2.2.2.2.2.2.1 = (0 : Int))) = true then
      if (decide (e.1 = (3 : Int))) = true then
       some true
      else
      some (decide (e.2.2.2.2.2.2.2 = ([] : List UInt8)))
     else
     some false
    else
    if (decide (e.1 = (3 : Int))) = true then
     if (decide (e.1 = (8 : Int))) = true then
      if (decide (e.1 = (3 : Int))) = true then
       some true
      else
      some (decide (e.2.2.2.2.2.2.2 = ([] : List UInt8)))
     else
     if (decide (e.2.2.2.2.2.2.1 = (0 : Int))) = true then
      if (decide (e.1 = (3 : Int))) = true then
       some true
      else
      some (decide (e.2.2.2.2.2.2.2 = ([] : List UInt8)))
     else
     some false
    else
    if (decide (e.2.2.2.2.2.1 = (0 : Int))) = true then
     if (decide (e.1 = (8 : Int))) = true then
      if (decide (e.1 = (3 : Int))) = true then
       some true
      else
      some (decide (e.2.2.2.2.2.2.2 = ([] : List UInt8)))
     else
     if (decide (e.2.2.2.2.2.2.1 = (0 : Int))) = true then
      if (decide (e.1 = (3 : Int))) = true then
       some true
      else
      some (decide (e.2.2.2.2.2.2.2 = ([] : List UInt8)))
     else
     some false
    else
    some false
   else
   if (decide (e.2.2.2.2.1 = (0 : Int))) = true then
    if (decide (e.1 = (4 : Int))) = true then
     if (decide (e.1 = (8 : Int))) = true then
      if (decide (e.1 = (3 : Int))) = true then
       some true
      else
      some (decide (e.2.2.2.2.2.2.2 = ([] : List UInt8)))
     else
     if (decide (e.2.2.2.2.2.2.1 = (0 : Int))) = true then
      if (decide (e.1 = (3 : Int))) = true then
       some true
      else
      some (decide (e.2.2.2.2.2.2.2 = ([] : List UInt8)))
     else
     some false
    else
    if (decide (e.1 = (3 : Int))) = true then
     if (decide (e.1 = (8 : Int))) = true then
      if (decide (e.1 = (3 : Int))) = true then
       some true
      else
      some (decide (e.2.2.2.2.2.2.2 = ([] : List UInt8)))
     else
     if (decide (e.2.2.2.2.2.2.1 = (0 : Int))) = true then
      if (decide (e.1 = (3 : Int))) = true then
       some true
      else
      some (decide (e.2.2.2.2.2.2.2 = ([] : List UInt8)))
     else
     some false
    else
    if (decide (e.2.2.2.2.2.1 = (0 : Int))) = true then
     if (decide (e.1 = (8 : Int))) = true then
      if (decide (e.1 = (3 : Int))) = true then
       some true
      else
      some (decide (e.2.2.2.2.2.2.2 = ([] : List UInt8)))
     else
     if (decide (e.2.2.2.2.2.2.1 = (0 : Int))) = true then
      if (decide (e.1 = (3 : Int))) = true then
       some true
      else
      some (decide (e.2.2.2.2.2.2.2 = ([] : List UInt8)))
     else
     some false
    else
    some false
   else
   some false
  else
  if (decide (e.2.2.1 = ([] : List UInt8))) = true then
   if (decide (e.1 = (4 : Int))) = true then
    if (decide (e.1 = (4 : Int))) = true then
     if (decide (e.1 = (8 : Int))) = true then
      if (decide (e.1 = (3 : Int))) = true then
       some true
      else
      some (decide (e.2.2.2.2.2.2.2 = ([] : List UInt8)))
     else
     if (decide (e.2.2.2.2.2.2.1 = (0 : Int))) = true then
      if (decide (e.1 = (3 : Int))) = true then
       some true
      else
      some (decide (e.2.2.2.2.2.2.2 = ([] : List UInt8)))
     else
     some false
    else
    if (decide (e.1 = (3 : Int))) = true then
     if (decide (e.1 = (8 : Int))) = true then
      if (decide (e.1 = (3 : Int))) = true then
       some true
      else
      some (decide (e.2.2.2.2.2.2.2 = ([] : List UInt8)))
     else
     if (decide (e.2.2.2.2.2.2.1 = (0 : Int))) = true then
      if (decide (e.1 = (3 : Int))) = true then
       some true
      else
      some (decide (e.2.2.2.2.2.2.2 = ([] : List UInt8)))
     else
     some false
    else
    if (decide (e.2.2.2.2.2.1 = (0 : Int))) = true then
     if (decide (e.1 = (8 : Int))) = true then
      if (decide (e.1 = (3 : Int))) = true then
       some true
      else
      some (decide (e.2.2.2.2.2.2.2 = ([] : List UInt8)))
     else
     if (decide (e.2.2.2.2.2.2.1 = (0 : Int))) = true then
      if (decide (e.1 = (3 : Int))) = true then
       some true
      else
      some (decide (e.2.2.2.2.2.2.2 = ([] : List UInt8)))
     else
     some false
    else
    some false
   else
   if (decide (e.2.2.2.2.1 = (0 : Int))) = true then
    if (decide (e.1 = (4 : Int))) = true then
     if (decide (e.1 = (8 : Int))) = true then
      if (decide (e.1 = (3 : Int))) = true then
       some true
      else
      some (decide (e.2.2.2.2.2.2.2 = ([] : List UInt8)))
     else
     if (decide (e.2.2.2.2.2.2.1 = (0 : Int))) = true then
      if (decide (e.1 = (3 : Int))) = true then
       some true
      else
      some (decide (e.2.2.2.2.2.2.2 = ([] : List UInt8)))
     else
     some false
    else
    if (decide (e.1 = (3 : Int))) = true then
     if (decide (e.1 = (8 : Int))) = true then
      if (decide (e.1 = (3 : Int))) = true then
       some true
      else
      some (decide (e.2.2.2.2.2.2.2 = ([] : List UInt8)))
     else
     if (decide (e.2.2.2.2.2.2.1 = (0 : Int))) = true then
      if (decide (e.1 = (3 : Int))) = true then
       some true
      else
      some (decide (e.2.2.2.2.2.2.2 = ([] : List UInt8)))
     else
     some false
    else
    if (decide (e.2.2.2.2.2.1 = (0 : Int))) = true then
     if (decide (e.1 = (8 : Int))) = true then
      if (decide (e.1 = (3 : Int))) = true then
       some true
      else
      some (decide (e.2.2.2.2.2.2.2 = ([] : List UInt8)))
     else
     if (decide (e.2.2.2.2.2.2.1 = (0 : Int))) = true then
      if (decide (e.1 = (3 : Int))) = true then
       some true
      else
      some (decide (e.2.2.2.2.2.2.2 = ([] : List UInt8)))
     else
     some false
    else
    some false
   else
   some false
  else
  some false
 else
 if (decide (e.1 = (4 : Int))) = true then
  if (decide (e.1 = (4 : Int))) = true then
   if (decide (e.1 = (7 : Int))) = true then
    if (decide (e.1 = (4 : Int))) = true then
     if (decide (e.1 = (4 : Int))) = true then
      if (decide (e.1 = (3 : Int))) = true then
       some true
      else
      some (decide (e.2.2.2.2.2.2.2 = ([] : List UInt8)))
     else
     if (decide (e.1 = (3 : Int))) = true then
      if (decide (e.1 = (3 : Int))) = true then
       some true
      else
      some (decide (e.2.2.2.2.2.2.2 = ([] : List UInt8)))
     else
     if (decide (e.2.2.2.2.2.1 = (0 : Int))) = true then
      if (decide (e.1 = (3 : Int))) = true then
       some true
      else
      some (decide (e.2.2.2.2.2.2.2 = ([] : List UInt8)))
     else
     some false
    else
    if (decide (e.2.2.2.2.1 = (0 : Int))) = true then
     if (decide (e.1 = (4 : Int))) = true then
      if (decide (e.1 = (3 : Int))) = true then
       some true
      else
      some (decide (e.2.2.2.2.2.2.2 = ([] : List UInt8)))
     else
     if (decide (e.1 = (3 : Int))) = true then
      if (decide (e.1 = (3 : Int))) = true then
       some true
      else
      some (decide (e.2.2.2.2.2.2.2 = ([] : List UInt8)))
     else
     if (decide (e.2.2.2.2.2.1 = (0 : Int))) = true then
      if (decide (e.1 = (3 : Int))) = true then
       some true
      else
      some (decide (e.2.2.2.2.2.2.2 = ([] : List UInt8)))
     else
     some false
    else
    some false
   else
   if (decide (e.2.2.1 = ([] : List UInt8))) = true then
    if (decide (e.1 = (4 : Int))) = true then
     if (decide (e.1 = (4 : Int))) = true then
      if (decide (e.1 = (3 : Int))) = true then
       some true
      else
      some (decide (e.2.2.2.2.2.2.2 = ([] : List UInt8)))
     else
     if (decide (e.1 = (3 : Int))) = true then
      if (decide (e.1 = (3 : Int))) = true then
       some true
      else
      some (decide (e.2.2.2.2.2.2.2 = ([] : List UInt8)))
     else
     if (decide (e.2.2.2.2.2.1 = (0 : Int))) = true then
      if (decide (e.1 = (3 : Int))) = true then
       some true
      else
      some (decide (e.2.2.2.2.2.2.2 = ([] : List UInt8)))
     else
     some false
    else
    if (decide (e.2.2.2.2.1 = (0 : Int))) = true then
     if (decide (e.1 = (4 : Int))) = true then
      if (decide (e.1 = (3 : Int))) = true then
       some true
      else
      some (decide (e.2.2.2.2.2.2.2 = ([] : List UInt8)))
     else
     if (decide (e.1 = (3 : Int))) = true then
      if (decide (e.1 = (3 : Int))) = true then
       some true
      else
      some (decide (e.2.2.2.2.2.2.2 = ([] : List UInt8)))
     else
     if (decide (e.2.2.2.2.2.1 = (0 : Int))) = true then
      if (decide (e.1 = (3 : Int))) = true then
       some true
      else
      some (decide (e.2.2.2.2.2.2.2 = ([] : List UInt8)))
     else
     some false
    else
    some false
   else
   some false
  else
  if (decide (e.1 = (7 : Int))) = true then
   if (decide (e.1 = (4 : Int))) = true then
    if (decide (e.1 = (4 : Int))) = true then
     if (decide (e.1 = (8 : Int))) = true then
      if (decide (e.1 = (3 : Int))) = true then
       some true
      else
      some (decide (e.2.2.2.2.2.2.2 = ([] : List UInt8)))
     else
     if (decide (e.2.2.2.2.2.2.1 = (0 : Int))) = true then
      if (decide (e.1 = (3 : Int))) = true then
       some true
      else
      some (decide (e.2.2.2.2.2.2.2 = ([] : List UInt8)))
     else
     some false
    else
    if (decide (e.1 = (3 : Int))) = true then
     if (decide (e.1 = (8 : Int))) = true then
      if (decide (e.1 = (3 : Int))) = true then
       some true
      else
      some (decide (e.2.2.2.2.2.2.2 = ([] : List UInt8)))
     else
     if (decide (e.2.2.2.2.2.2.1 = (0 : Int))) = true then
      if (decide (e.1 = (3 : Int))) = true then
       some true
      else
      some (decide (e.2.2.2.2.2.2.2 = ([] : List UInt8)))
     else
     some false
    else
    if (decide (e.2.2.2.2.2.1 = (0 : Int))) = true then
     if (decide (e.1 = (8 : Int))) = true then
      if (decide (e.1 = (3 : Int))) = true then
       some true
      else
      some (decide (e.2.2.2.2.2.2.2 = ([] : List UInt8)))
     else
     if (decide (e.2.2.2.2.2.2.1 = (0 : Int))) = true then
      if (decide (e.1 = (3 : Int))) = true then
       some true
      else
      some (decide (e.2.2.2.2.2.2.2 = ([] : List UInt8)))
     else
     some false
    else
    some false
   else
   if (decide (e.2.2.2.2.1 = (0 : Int))) = true then
    if (decide (e.1 = (4 : Int))) = true then
     if (decide (e.1 = (8 : Int))) = true then
      if (decide (e.1 = (3 : Int))) = true then
       some true
      else
      some (decide (e.2.2.2.2.2.2.2 = ([] : List UInt8)))
     else
     if (decide (e.2.2.2.2.2.2.1 = (0 : Int))) = true then
      if (decide (e.1 = (3 : Int))) = true then
       some true
      else
      some (decide (e.2.2.2.2.2.2.2 = ([] : List UInt8)))
     else
     some false
    else
    if (decide (e.1 = (3 : Int))) = true then
     if (decide (e.1 = (8 : Int))) = true then
      if (decide (e.1 = (3 : Int))) = true then
       some true
      else
      some (decide (e.2.2.2.2.2.2.2 = ([] : List UInt8)))
     else
     if (decide (e.2.2.2.2.2.2.1 = (0 : Int))) = true then
      if (decide (e.1 = (3 : Int))) = true then
       some true
      else
      some (decide (e.2.2.2.2.2.2.2 = ([] : List UInt8)))
     else
     some false
    else
    if (decide (e.2.2.2.2.2.1 = (0 : Int))) = true then
     if (decide (e.1 = (8 : Int))) = true then
      if (decide (e.1 = (3 : Int))) = true then
       some true
      else
      some (decide (e.2.2.2.2.2.2.2 = ([] : List UInt8)))
     else
     if (decide (e.2.2.2.2.2.2.1 = (0 : Int))) = true then
      if (decide (e.1 = (3 : Int))) = true then
       some true
      else
      some (decide (e.2.2.2.2.2.2.2 = ([] : List UInt8)))
     else
     some false
    else
    some false
   else
   some false
  else
  if (decide (e.2.2.1 = ([] : List UInt8))) = true then
   if (decide (e.1 = (4 : Int))) = true then
    if (decide (e.1 = (4 : Int))) = true then
     if (decide (e.1 = (8 : Int))) = true then
      if (decide (e.1 = (3 : Int))) = true then
       some true
      else
      some (decide (e.2.2.2.2.2.2.2 = ([] : List UInt8)))
     else
     if (decide (e.2.2.2.2.2.2.1 = (0 : Int))) = true then
      if (decide (e.1 = (3 : Int))) = true then
       some true
      else
      some (decide (e.2.2.2.2.2.2.2 = ([] : List UInt8)))
     else
     some false
    else
    if (decide (e.1 = (3 : Int))) = true then
     if (decide (e.1 = (8 : Int))) = true then
      if (decide (e.1 = (3 : Int))) = true then
       some true
      else
      some (decide (e.2.2.2.2.2.2.2 = ([] : List UInt8)))
     else
     if (decide (e.2.2.2.2.2.2.1 = (0 : Int))) = true then
      if (decide (e.1 = (3 : Int))) = true then
       some true
      else
      some (decide (e.2.2.2.2.2.2.2 = ([] : List UInt8)))
     else
     some false
    else
    if (decide (e.2.2.2.2.2.1 = (0 : Int))) = true then
     if (decide (e.1 = (8 : Int))) = true then
      if (decide (e.1 = (3 : Int))) = true then
       some true
      else
      some (decide (e.2.2.2.2.2.2.2 = ([] : List UInt8)))
     else
     if (decide (e.2.2.2.2.2.2.1 = (0 : Int))) = true then
      if (decide (e.1 = (3 : Int))) = true then
       some true
      else
      some (decide (e.2.2.2.2.2.2.2 = ([] : List UInt8)))
     else
     some false
    else
    some false
   else
   if (decide (e.2.2.2.2.1 = (0 : Int))) = true then
    if (decide (e.1 = (4 : Int))) = true then
     if (decide (e.1 = (8 : Int))) = true then
      if (decide (e.1 = (3 : Int))) = true then
       some true
      else
      some (decide (e.2.2.2.2.2.2.2 = ([] : List UInt8)))
     else
     if (decide (e.2.2.2.2.2.2.1 = (0 : Int))) = true then
      if (decide (e.1 = (3 : Int))) = true then
       some true
      else
      some (decide (e.2.2.2.2.2.2.2 = ([] : List UInt8)))
     else
     some false
    else
    if (decide (e.1 = (3 : Int))) = true then
     if (decide (e.1 = (8 : Int))) = true then
      if (decide (e.1 = (3 : Int))) = true then
       some true
      else
      some (decide (e.2.2.2.2.2.2.2 = ([] : List UInt8)))
     else
     if (decide (e.2.2.2.2.2.2.1 = (0 : Int))) = true then
      if (decide (e.1 = (3 : Int))) = true then
       some true
      else
      some (decide (e.2.2.2.2.2.2.2 = ([] : List UInt8)))
     else
     some false
    else
    if (decide (e.2.2.2.2.2.1 = (0 : Int))) = true then
     if (decide (e.1 = (8 : Int))) = true then
      if (decide (e.1 = (3 : Int))) = true then
       some true
      else
      some (decide (e.2.2.2.2.2.2.2 = ([] : List UInt8)))
     else
     if (decide (e.2.2.2.2.2.2.1 = (0 : Int))) = true then
      if (decide (e.1 = (3 : Int))) = true then
       some true
      else
      some (decide (e.2.2.2.2.2.2.2 = ([] : List UInt8)))
     else
     some false
    else
    some false
   else
   some false
  else
  some false
 else
 if (decide (e.1 = (4 : Int))) = true then
  if (decide (e.1 = (7 : Int))) = true then
   if (decide (e.1 = (5 : Int))) = true then
    if (decide (e.1 = (4 : Int))) = true then
     if (decide (e.1 = (4 : Int))) = true then
      if (decide (e.1 = (3 : Int))) = true then
       some true
      else
      some (decide (e.2.2.2.2.2.2.2 = ([] : List UInt8)))
     else
     if (decide (e.1 = (3 : Int))) = true then
      if (decide (e.1 = (3 : Int))) = true then
       some true
      else
      some (decide (e.2.2.2.2.2.2.2 = ([] : List UInt8)))
     else
     if (decide (e.2.2.2.2.2.1 = (0 : Int))) = true then
      if (decide (e.1 = (3 : Int))) = true then
       some true
      else
      some (decide (e.2.2.2.2.2.2.2 = ([] : List UInt8)))
     else
     some false
    else
    if (decide (e.2.2.2.2.1 = (0 : Int))) = true then
     if (decide (e.1 = (4 : Int))) = true then
      if (decide (e.1 = (3 : Int))) = true then
       some true
      else
      some (decide (e.2.2.2.2.2.2.2 = ([] : List UInt8)))
     else
     if (decide (e.1 = (3 : Int))) = true then
      if (decide (e.1 = (3 : Int))) = true then
       some true
      else
      some (decide (e.2.2.2.2.2.2.2 = ([] : List UInt8)))
     else
     if (decide (e.2.2.2.2.2.1 = (0 : Int))) = true then
      if (decide (e.1 = (3 : Int))) = true then
       some true
      else
      some (decide (e.2.2.2.2.2.2.2 = ([] : List UInt8)))
     else
     some false
    else
    some false
   else
   if (decide ((e.2.2.2.1.length : Int) = (0 : Int))) = true then
    if (decide (e.1 = (4 : Int))) = true then
     if (decide (e.1 = (4 : Int))) = true then
      if (decide (e.1 = (3 : Int))) = true then
       some true
      else
      some (decide (e.2.2.2.2.2.2.2 = ([] : List UInt8)))
     else
     if (decide (e.1 = (3 : Int))) = true then
      if (decide (e.1 = (3 : Int))) = true then
       some true
      else
      some (decide (e.2.2.2.2.2.2.2 = ([] : List UInt8)))
     else
     if (decide (e.2.2.2.2.2.1 = (0 : Int))) = true then
      if (decide (e.1 = (3 : Int))) = true then
       some true
      else
      some (decide (e.2.2.2.2.2.2.2 = ([] : List UInt8)))
     else
     some false
    else
    if (decide (e.2.2.2.2.1 = (0 : Int))) = true then
     if (decide (e.1 = (4 : Int))) = true then
      if (decide (e.1 = (3 : Int))) = true then
       some true
      else
      some (decide (e.2.2.2.2.2.2.2 = ([] : List UInt8)))
     else
     if (decide (e.1 = (3 : Int))) = true then
      if (decide (e.1 = (3 : Int))) = true then
       some true
      else
      some (decide (e.2.2.2.2.2.2.2 = ([] : List UInt8)))
     else
     if (decide (e.2.2.2.2.2.1 = (0 : Int))) = true then
      if (decide (e.1 = (3 : Int))) = true then
       some true
      else
      some (decide (e.2.2.2.2.2.2.2 = ([] : List UInt8)))
     else
     some false
    else
    some false
   else
   some false
  else
  if (decide (e.2.2.1 = ([] : List UInt8))) = true then
   if (decide (e.1 = (5 : Int))) = true then
    if (decide (e.1 = (4 : Int))) = true then
     if (decide (e.1 = (4 : Int))) = true then
      if (decide (e.1 = (3 : Int))) = true then
       some true
      else
      some (decide (e.2.2.2.2.2.2.2 = ([] : List UInt8)))
     else
     if (decide (e.1 = (3 : Int))) = true then
      if (decide (e.1 = (3 : Int))) = true then
       some true
      else
      some (decide (e.2.2.2.2.2.2.2 = ([] : List UInt8)))
     else
     if (decide (e.2.2.2.2.2.1 = (0 : Int))) = true then
      if (decide (e.1 = (3 : Int))) = true then
       some true
      else
      some (decide (e.2.2.2.2.2.2.2 = ([] : List UInt8)))
     else
     some false
    else
    if (decide (e.2.2.2.2.1 = (0 : Int))) = true then
     if (decide (e.1 = (4 : Int))) = true then
      if (decide (e.1 = (3 : Int))) = true then
       some true
      else
      some (decide (e.2.2.2.2.2.2.2 = ([] : List UInt8)))
     else
     if (decide (e.1 = (3 : Int))) = true then
      if (decide (e.1 = (3 : Int))) = true then
       some true
      else
      some (decide (e.2.2.2.2.2.2.2 = ([] : List UInt8)))
     else
     if (decide (e.2.2.2.2.2.1 = (0 : Int))) = true then
      if (decide (e.1 = (3 : Int))) = true then
       some true
      else
      some (decide (e.2.2.2.2.2.2.2 = ([] : List UInt8)))
     else
     some false
    else
    some false
   else
   if (decide ((e.2.2.2.1.length : Int) = (0 : Int))) = true then
    if (decide (e.1 = (4 : Int))) = true then
     if (decide (e.1 = (4 : Int))) = true then
      if (decide (e.1 = (3 : Int))) = true then
       some true
      else
      some (decide (e.2.2.2.2.2.2.2 = ([] : List UInt8)))
     else
     if (decide (e.1 = (3 : Int))) = true then
      if (decide (e.1 = (3 : Int))) = true then
       some true
      else
      some (decide (e.2.2.2.2.2.2.2 = ([] : List UInt8)))
     else
     if (decide (e.2.2.2.2.2.1 = (0 : Int))) = true then
      if (decide (e.1 = (3 : Int))) = true then
       some true
      else
      some (decide (e.2.2.2.2.2.2.2 = ([] : List UInt8)))
     else
     some false
    else
    if (decide (e.2.2.2.2.1 = (0 : Int))) = true then
     if (decide (e.1 = (4 : Int))) = true then
      if (decide (e.1 = (3 : Int))) = true then
       some true
      else
      some (decide (e.2.2.2.2.2.2.2 = ([] : List UInt8)))
     else
     if (decide (e.1 = (3 : Int))) = true then
      if (decide (e.1 = (3 : Int))) = true then
       some true
      else
      some (decide (e.2.2.2.2.2.2.2 = ([] : List UInt8)))
     else
     if (decide (e.2.2.2.2.2.1 = (0 : Int))) = true then
      if (decide (e.1 = (3 : Int))) = true then
       some true
      else
      some (decide (e.2.2.2.2.2.2.2 = ([] : List UInt8)))
     else
     some false
    else
    some false
   else
   some false
  else
  some false
 else
 if (decide (e.1 = (7 : Int))) = true then
  if (decide (e.1 = (5 : Int))) = true then
   if (decide (e.1 = (4 : Int))) = true then
    if (decide (e.1 = (4 : Int))) = true then
     if (decide (e.1 = (8 : Int))) = true then
      if (decide (e.1 = (3 : Int))) = true then
       some true
      else
      some (decide (e.2.2.2.2.2.2.2 = ([] : List UInt8)))
     else
     if (decide (e.2.2.2.2.2.2.1 = (0 : Int))) = true then
      if (decide (e.1 = (3 : Int))) = true then
       some true
      else
      some (decide (e.2.2.2.2.2.2.2 = ([] : List UInt8)))
     else
     some false
    else
    if (decide (e.1 = (3 : Int))) = true then
     if (decide (e.1 = (8 : Int))) = true then
      if (decide (e.1 = (3 : Int))) = true then
       some true
      else
      some (decide (e.2.2.2.2.2.2.2 = ([] : List UInt8)))
     else
     if (decide (e.2.2.2.2.2.2.1 = (0 : Int))) = true then
      if (decide (e.1 = (3 : Int))) = true then
       some true
      else
      some (decide (e.2.2.2.2.2.2.2 = ([] : List UInt8)))
     else
     some false
    else
    if (decide (e.2.2.2.2.2.1 = (0 : Int))) = true then
     if (decide (e.1 = (8 : Int))) = true then
      if (decide (e.1 = (3 : Int))) = true then
       some true
      else
      some (decide (e.2.2.2.2.2.2.2 = ([] : List UInt8)))
     else
     if (decide (e.2.2.2.2.2.2.1 = (0 : Int))) = true then
      if (decide (e.1 = (3 : Int))) = true then
       some true
      else
      some (decide (e.2.2.2.2.2.2.2 = ([] : List UInt8)))
     else
     some false
    else
    some false
   else
   if (decide (e.2.2.2.2.1 = (0 : Int))) = true then
    if (decide (e.1 = (4 : Int))) = true then
     if (decide (e.1 = (8 : Int))) = true then
      if (decide (e.1 = (3 : Int))) = true then
       some true
      else
      some (decide (e.2.2.2.2.2.2.2 = ([] : List UInt8)))
     else
     if (decide (e.2.2.2.2.2.2.1 = (0 : Int))) = true then
      if (decide (e.1 = (3 : Int))) = true then
       some true
      else
      some (decide (e.2.2.2.2.2.2.2 = ([] : List UInt8)))
     else
     some false
    else
    if (decide (e.1 = (3 : Int))) = true then
     if (decide (e.1 = (8 : Int))) = true then
      if (decide (e.1 = (3 : Int))) = true then
       some true
      else
      some (decide (e.2.2.2.2.2.2.2 = ([] : List UInt8)))
     else
     if (decide (e.2.2.2.2.2.2.1 = (0 : Int))) = true then
      if (decide (e.1 = (3 : Int))) = true then
       some true
      else
      some (decide (e.2.2.2.2.2.2.2 = ([] : List UInt8)))
     else
     some false
    else
    if (decide (e.2.2.2.2.2.1 = (0 : Int))) = true then
     if (decide (e.1 = (8 : Int))) = true then
      if (decide (e.1 = (3 : Int))) = true then
       some true
      else
      some (decide (e.2.2.2.2.2.2.2 = ([] : List UInt8)))
     else
     if (decide (e.2.2.2.2.2.2.1 = (0 : Int))) = true then
      if (decide (e.1 = (3 : Int))) = true then
       some true
      else
      some (decide (e.2.2.2.2.2.2.2 = ([] : List UInt8)))
     else
     some false
    else
    some false
   else
   some false
  else
  if (decide ((e.2.2.2.1.length : Int) = (0 : Int))) = true then
   if (decide (e.1 = (4 : Int))) = true then
    if (decide (e.1 = (4 : Int))) = true then
     if (decide (e.1 = (8 : Int))) = true then
      if (decide (e.1 = (3 : Int))) = true then
       some true
      else
      some (decide (e.2.2.2.2.2.2.2 = ([] : List UInt8)))
     else
     if (decide (e.2.2.2.2.2.2.1 = (0 : Int))) = true then
      if (decide (e.1 = (3 : Int))) = true then
       some true
      else
      some (decide (e.2.2.2.2.2.2.2 = ([] : List UInt8)))
     else
     some false
    else
    if (decide (e.1 = (3 : Int))) = true then
     if (decide (e.1 = (8 : Int))) = true then
      if (decide (e.1 = (3 : Int))) = true then
       some true
      else
      some (decide (e.2.2.2.2.2.2.2 = ([] : List UInt8)))
     else
     if (decide (e.2.2.2.2.2.2.1 = (0 : Int))) = true then
      if (decide (e.1 = (3 : Int))) = true then
       some true
      else
      some (decide (e.2.2.2.2.2.2.2 = ([] : List UInt8)))
     else
     some false
    else
    if (decide (e.2.2.2.2.2.1 = (0 : Int))) = true then
     if (decide (e.1 = (8 : Int))) = true then
      if (decide (e.1 = (3 : Int))) = true then
       some true
      else
      some (decide (e.2.2.2.2.2.2.2 = ([] : List UInt8)))
     else
     if (decide (e.2.2.2.2.2.2.1 = (0 : Int))) = true then
      if (decide (e.1 = (3 : Int))) = true then
       some true
      else
      some (decide (e.2.2.2.2.2.2.2 = ([] : List UInt8)))
     else
     some false
    else
    some false
   else
   if (decide (e.2.2.2.2.1 = (0 : Int))) = true then
    if (decide (e.1 = (4 : Int))) = true then
     if (decide (e.1 = (8 : Int))) = true then
      if (decide (e.1 = (3 : Int))) = true then
       some true
      else
      some (decide (e.2.2.2.2.2.2.2 = ([] : List UInt8)))
     else
     if (decide (e.2.2.2.2.2.2.1 = (0 : Int))) = true then
      if (decide (e.1 = (3 : Int))) = true then
       some true
      else
      some (decide (e.2.2.2.2.2.2.2 = ([] : List UInt8)))
     else
     some false
    else
    if (decide (e.1 = (3 : Int))) = true then
     if (decide (e.1 = (8 : Int))) = true then
      if (decide (e.1 = (3 : Int))) = true then
       some true
      else
      some (decide (e.2.2.2.2.2.2.2 = ([] : List UInt8)))
     else
     if (decide (e.2.2.2.2.2.2.1 = (0 : Int))) = true then
      if (decide (e.1 = (3 : Int))) = true then
       some true
      else
      some (decide (e.2.2.2.2.2.2.2 = ([] : List UInt8)))
     else
     some false
    else
    if (decide (e.2.2.2.2.2.1 = (0 : Int))) = true then
     if (decide (e.1 = (8 : Int))) = true then
      if (decide (e.1 = (3 : Int))) = true then
       some true
      else
      some (decide (e.2.2.2.2.2.2.2 = ([] : List UInt8)))
     else
     if (decide (e.2.2.2.2.2.2.1 = (0 : Int))) = true then
      if (decide (e.1 = (3 : Int))) = true then
       some true
      else
      some (decide (e.2.2.2.2.2.2.2 = ([] : List UInt8)))
     else
     some false
    else
    some false
   else
   some false
  else
  some false
 else
 if (decide (e.2.2.1 = ([] : List UInt8))) = true then
  if (decide (e.1 = (5 : Int))) = true then
   if (decide (e.1 = (4 : Int))) = true then
    if (decide (e.1 = (4 : Int))) = true then
     if (decide (e.1 = (8 : Int))) = true then
      if (decide (e.1 = (3 : Int))) = true then
       some true
      else
      some (decide (e.2.2.2.2.2.2.2 = ([] : List UInt8)))
     else
     if (decide (e.2.2.2.2.2.2.1 = (0 : Int))) = true then
      if (decide (e.1 = (3 : Int))) = true then
       some true
      else
      some (decide (e.2.2.2.2.2.2.2 = ([] : List UInt8)))
     else
     some false
    else
    if (decide (e.1 = (3 : Int))) = true then
     if (decide (e.1 = (8 : Int))) = true then
      if (decide (e.1 = (3 : Int))) = true then
       some true
      else
      some (decide (e.2.2.2.2.2.2.2 = ([] : List UInt8)))
     else
     if (decide (e.2.2.2.2.2.2.1 = (0 : Int))) = true then
      if (decide (e.1 = (3 : Int))) = true then
       some true
      else
      some (decide (e.2.2.2.2.2.2.2 = ([] : List UInt8)))
     else
     some false
    else
    if (decide (e.2.2.2.2.2.1 = (0 : Int))) = true then
     if (decide (e.1 = (8 : Int))) = true then
      if (decide (e.1 = (3 : Int))) = true then
       some true
      else
      some (decide (e.2.2.2.2.2.2.2 = ([] : List UInt8)))
     else
     if (decide (e.2.2.2.2.2.2.1 = (0 : Int))) = true then
      if (decide (e.1 = (3 : Int))) = true then
       some true
      else
      some (decide (e.2.2.2.2.2.2.2 = ([] : List UInt8)))
     else
     some false
    else
    some false
   else
   if (decide (e.2.2.2.2.1 = (0 : Int))) = true then
    if (decide (e.1 = (4 : Int))) = true then
     if (decide (e.1 = (8 : Int))) = true then
      if (decide (e.1 = (3 : Int))) = true then
       some true
      else
      some (decide (e.2.2.2.2.2.2.2 = ([] : List UInt8)))
     else
     if (decide (e.2.2.2.2.2.2.1 = (0 : Int))) = true then
      if (decide (e.1 = (3 : Int))) = true then
       some true
      else
      some (decide (e.2.2.2.2.2.2.2 = ([] : List UInt8)))
     else
     some false
    else
    if (decide (e.1 = (3 : Int))) = true then
     if (decide (e.1 = (8 : Int))) = true then
      if (decide (e.1 = (3 : Int))) = true then
       some true
      else
      some (decide (e.2.2.2.2.2.2.2 = ([] : List UInt8)))
     else
     if (decide (e.2.2.2.2.2.2.1 = (0 : Int))) = true then
      if (decide (e.1 = (3 : Int))) = true then
       some true
      else
      some (decide (e.2.2.2.2.2.2.2 = ([] : List UInt8)))
     else
     some false
    else
    if (decide (e.2.2.2.2.2.1 = (0 : Int))) = true then
     if (decide (e.1 = (8 : Int))) = true then
      if (decide (e.1 = (3 : Int))) = true then
       some true
      else
      some (decide (e.2.2.2.2.2.2.2 = ([] : List UInt8)))
     else
     if (decide (e.2.2.2.2.2.2.1 = (0 : Int))) = true then
      if (decide (e.1 = (3 : Int))) = true then
       some true
      else
      some (decide (e.2.2.2.2.2.2.2 = ([] : List UInt8)))
     else
     some false
    else
    some false
   else
   some false
  else
  if (decide ((e.2.2.2.1.length : Int) = (0 : Int))) = true then
   if (decide (e.1 = (4 : Int))) = true then
    if (decide (e.1 = (4 : Int))) = true then
     if (decide (e.1 = (8 : Int))) = true then
      if (decide (e.1 = (3 : Int))) = true then
       some true
      else
      some (decide (e.2.2.2.2.2.2.2 = ([] : List UInt8)))
     else
     if (decide (e.2.2.2.2.2.2.1 = (0 : Int))) = true then
      if (decide (e.1 = (3 : Int))) = true then
       some true
      else
      some (decide (e.2.2.2.2.2.2.2 = ([] : List UInt8)))
     else
     some false
    else
    if (decide (e.1 = (3 : Int))) = true then
     if (decide (e.1 = (8 : Int))) = true then
      if (decide (e.1 = (3 : Int))) = true then
       some true
      else
      some (decide (e.2.2.2.2.2.2.2 = ([] : List UInt8)))
     else
     if (decide (e.2.2.2.2.2.2.1 = (0 : Int))) = true then
      if (decide (e.1 = (3 : Int))) = true then
       some true
      else
      some (decide (e.2.2.2.2.2.2.2 = ([] : List UInt8)))
     else
     some false
    else
    if (decide (e.2.2.2.2.2.1 = (0 : Int))) = true then
     if (decide (e.1 = (8 : Int))) = true then
      if (decide (e.1 = (3 : Int))) = true then
       some true
      else
      some (decide (e.2.2.2.2.2.2.2 = ([] : List UInt8)))
     else
     if (decide (e.2.2.2.2.2.2.1 = (0 : Int))) = true then
      if (decide (e.1 = (3 : Int))) = true then
       some true
      else
      some (decide (e.2.2.2.2.2.2.2 = ([] : List UInt8)))
     else
     some false
    else
    some false
   else
   if (decide (e.2.2.2.2.1 = (0 : Int))) = true then
    if (decide (e.1 = (4 : Int))) = true then
     if (decide (e.1 = (8 : Int))) = true then
      if (decide (e.1 = (3 : Int))) = true then
       some true
      else
      some (decide (e.2.2.2.2.2.2.2 = ([] : List UInt8)))
     else
     if (decide (e.2.2.2.2.2.2.1 = (0 : Int))) = true then
      if (decide (e.1 = (3 : Int))) = true then
       some true
      else
      some (decide (e.2.2.2.2.2.2.2 = ([] : List UInt8)))
     else
     some false
    else
    if (decide (e.1 = (3 : Int))) = true then
     if (decide (e.1 = (8 : Int))) = true then
      if (decide (e.1 = (3 : Int))) = true then
       some true
      else
      some (decide (e.2.2.2.2.2.2.2 = ([] : List UInt8)))
     else
     if (decide (e.2.2.2.2.2.2.1 = (0 : Int))) = true then
      if (decide (e.1 = (3 : Int))) = true then
       some true
      else
      some (decide (e.2.2.2.2.2.2.2 = ([] : List UInt8)))
     else
     some false
    else
    if (decide (e.2.2.2.2.2.1 = (0 : Int))) = true then
     if (decide (e.1 = (8 : Int))) = true then
      if (decide (e.1 = (3 : Int))) = true then
       some true
      else
      some (decide (e.2.2.2.2.2.2.2 = ([] : List UInt8)))
     else
     if (decide (e.2.2.2.2.2.2.1 = (0 : Int))) = true then
      if (decide (e.1 = (3 : Int))) = true then
       some true
      else
      some (decide (e.2.2.2.2.2.2.2 = ([] : List UInt8)))
     else
     some false
    else
    some false
   else
   some false
  else
  some false
 else
 some false
def spec_EditOk (e : Edit) : Option (Bool) :=
 (spec_l01In e.1 (1 : Int) (8 : Int)).bind fun t =>
 if (!t) = true then
  some false
 else
 (spec_BoxName e.2.1).bind fun t1 =>
 if (!t1) = true then
  some false
 else
 (spec_l10Uses e).bind fun t2 =>
 if (!t2) = true then
  some false
 else
 (spec_SetOk e.2.2.2.1).bind fun t3 =>
 if (!t3) = true then
  some false
 else
 (spec_FlagsOk e.2.2.2.2.2.1).bind fun t4 =>
 if (!t4) = true then
  some false
 else
 if (decide (e.1 = (6 : Int))) = true then
  if (decide (e.1 = (6 : Int))) = true then
   (spec_BoxName e.2.2.1).bind fun t5 =>
   some t5
  else
  if (decide (e.1 = (4 : Int))) = true then
   (spec_l01In e.2.2.2.2.1 (1 : Int) (3 : Int)).bind fun t6 =>
   if t6 = true then
    (spec_l01In e.2.2.2.2.2.2.1 (-1 : Int) (100000 : Int)).bind fun t7 =>
    some t7
   else
   some false
  else
  if (decide (e.1 = (8 : Int))) = true then
   (spec_l01In e.2.2.2.2.2.2.1 (0 : Int) (100000 : Int)).bind fun t8 =>
   some t8
  else
  if (decide (e.1 = (3 : Int))) = true then
   (spec_MailOk e.2.2.2.2.2.2.2).bind fun t9 =>
   some t9
  else
  some true
 else
 if (decide (e.1 = (7 : Int))) = true then
  (spec_BoxName e.2.2.1).bind fun t10 =>
  some t10
 else
 if (decide (e.1 = (4 : Int))) = true then
  (spec_l01In e.2.2.2.2.1 (1 : Int) (3 : Int)).bind fun t11 =>
  if t11 = true then
   (spec_l01In e.2.2.2.2.2.2.1 (-1 : Int) (100000 : Int)).bind fun t12 =>
   some t12
  else
  some false
 else
 if (decide (e.1 = (8 : Int))) = true then
  (spec_l01In e.2.2.2.2.2.2.1 (0 : Int) (100000 : Int)).bind fun t13 =>
  some t13
 else
 if (decide (e.1 = (3 : Int))) = true then
  (spec_MailOk e.2.2.2.2.2.2.2).bind fun t14 =>
  some t14
 else
 some true
def spec_l10Box (s : List Box × Int) (b : Box) (e : Edit) : Option ((List Box × Int) × Int) :=
 if (decide (e.1 = (3 : Int))) = true then
  (spec_AddMail b e.2.2.2.2.2.1 e.2.2.2.2.2.2.2).bind fun y =>
  if (decide (y.2 = (0 : Int))) = true then
   (spec_l09Copy s).bind fun y1 =>
   some (y1, (3 : Int))
  else
  (spec_PutBox s y.1).bind fun y2 =>
  some (y2, (0 : Int))
 else
 if (decide (e.1 = (4 : Int))) = true then
  (spec_SetFlags b e.2.2.2.1 e.2.2.2.2.1 e.2.2.2.2.2.1 e.2.2.2.2.2.2.1).bind fun y3 =>
  (spec_PutBox s y3.1).bind fun y4 =>
  some (y4, (0 : Int))
 else
 if (decide (e.1 = (5 : Int))) = true then
  (spec_Expunge b e.2.2.2.1).bind fun y5 =>
  (spec_PutBox s y5.1).bind fun y6 =>
  some (y6, (0 : Int))
 else
 if (decide (e.1 = (8 : Int))) = true then
  (spec_ForgetTombs b e.2.2.2.2.2.2.1).bind fun y7 =>
  (spec_PutBox s y7).bind fun y8 =>
  some (y8, (0 : Int))
 else
 (spec_PutBox s b).bind fun y9 =>
 some (y9, (0 : Int))
def spec_Apply (s : List Box × Int) (e : Edit) : Option ((List Box × Int) × Int) :=
 (spec_StoreOk s).bind fun t =>
 if (!t) = true then
  (spec_l09Copy s).bind fun y =>
  some (y, (4 : Int))
 else
 (spec_EditOk e).bind fun t1 =>
 if (!t1) = true then
  (spec_l09Copy s).bind fun y1 =>
  some (y1, (4 : Int))
 else
 if (decide (e.1 = (1 : Int))) = true then
  (spec_MakeBox s e.2.1).bind fun y2 =>
  some y2
 else
 (spec_BoxAt s e.2.1).bind fun y3 =>
 if (!y3.2) = true then
  (spec_l09Copy s).bind fun y4 =>
  some (y4, (1 : Int))
 else
 if (decide (e.1 = (2 : Int))) = true then
  (spec_DropBox s e.2.1).bind fun y5 =>
  some y5
 else
 if (decide (e.1 = (6 : Int))) = true then
  (spec_CopyMails s e.2.1 e.2.2.2.1 e.2.2.1).bind fun y6 =>
  some y6
 else
 if (decide (e.1 = (7 : Int))) = true then
  (spec_MoveMails s e.2.1 e.2.2.2.1 e.2.2.1).bind fun y7 =>
  some y7
 else
 (spec_l10Box s y3.1 e).bind fun y8 =>
 some y8
def spec_l10Edit (c : L01Cur) : Option (Edit × L01Cur) :=
 (spec_l01PickInt c [(1 : Int), (3 : Int), (3 : Int), (3 : Int), (3 : Int), (4 : Int), (4 : Int), (4 : Int), (5 : Int), (5 : Int), (6 : Int), (7 : Int), (2 : Int), (8 : Int)]).bind fun y =>
 (spec_l01Pick y.2 [([105, 110, 98, 111, 120] : List UInt8), ([105, 110, 98, 111, 120] : List UInt8), ([105, 110, 98, 111, 120] : List UInt8), ([119, 111, 114, 107] : List UInt8), ([111, 108, 100] : List UInt8)]).bind fun y1 =>
 if (decide (y.1 = (1 : Int))) = true then
  (spec_l01Pick y1.2 [([119, 111, 114, 107] : List UInt8), ([111, 108, 100] : List UInt8), ([97] : List UInt8)]).bind fun y2 =>
  if (decide (y.1 = (3 : Int))) = true then
   (spec_l01PickInt y2.2 [(0 : Int), (1 : Int), (8 : Int), (4 : Int), (9 : Int)]).bind fun y3 =>
   (spec_l07Mail y3.2).bind fun y4 =>
   some ((y.1, y2.1, ([] : List UInt8), ([] : List (Int × Int)), (0 : Int), y3.1, (0 : Int), y4.1), y4.2)
  else
  if (decide (y.1 = (4 : Int))) = true then
   (spec_l05Draw y2.2).bind fun y5 =>
   (spec_l01Below y5.2 (3 : Int)).bind fun y6 =>
   (spec_l01PickInt y6.2 [(1 : Int), (8 : Int), (8 : Int), (4 : Int), (31 : Int)]).bind fun y7 =>
   (spec_l01PickInt y7.2 [(-1 : Int), (-1 : Int), (3 : Int), (9 : Int)]).bind fun y8 =>
   some ((y.1, y2.1, ([] : List UInt8), y5.1, (w64 ((1 : Int) + y6.1)), y7.1, y8.1, ([] : List UInt8)), y8.2)
  else
  if (decide (y.1 = (5 : Int))) = true then
   some ((y.1, y2.1, ([] : List UInt8), [((1 : Int), (9999 : Int))], (0 : Int), (0 : Int), (0 : Int), ([] : List UInt8)), y2.2)
  else
  if (decide (y.1 = (6 : Int))) = true then
   if (decide (y.1 = (6 : Int))) = true then
    (spec_l05Draw y2.2).bind fun y9 =>
    (spec_l01Pick y9.2 [([119, 111, 114, 107] : List UInt8), ([111, 108, 100] : List UInt8), ([105, 110, 98, 111, 120] : List UInt8)]).bind fun y10 =>
    some ((y.1, y2.1, y10.1, y9.1, (0 : Int), (0 : Int), (0 : Int), ([] : List UInt8)), y10.2)
   else
   if (decide (y.1 = (8 : Int))) = true then
    (spec_l01Below y2.2 (9 : Int)).bind fun y11 =>
    some ((y.1, y2.1, ([] : List UInt8), ([] : List (Int × Int)), (0 : Int), (0 : Int), y11.1, ([] : List UInt8)), y11.2)
   else
   some ((y.1, y2.1, ([] : List UInt8), ([] : List (Int × Int)), (0 : Int), (0 : Int), (0 : Int), ([] : List UInt8)), y2.2)
  else
  if (decide (y.1 = (7 : Int))) = true then
   (spec_l05Draw y2.2).bind fun y12 =>
   (spec_l01Pick y12.2 [([119, 111, 114, 107] : List UInt8), ([111, 108, 100] : List UInt8), ([105, 110, 98, 111, 120] : List UInt8)]).bind fun y13 =>
   some ((y.1, y2.1, y13.1, y12.1, (0 : Int), (0 : Int), (0 : Int), ([] : List UInt8)), y13.2)
  else
  if (decide (y.1 = (8 : Int))) = true then
   (spec_l01Below y2.2 (9 : Int)).bind fun y14 =>
   some ((y.1, y2.1, ([] : List UInt8), ([] : List (Int × Int)), (0 : Int), (0 : Int), y14.1, ([] : List UInt8)), y14.2)
  else
  some ((y.1, y2.1, ([] : List UInt8), ([] : List (Int × Int)), (0 : Int), (0 : Int), (0 : Int), ([] : List UInt8)), y2.2)
 else
 if (decide (y.1 = (2 : Int))) = true then
  (spec_l01Pick y1.2 [([119, 111, 114, 107] : List UInt8), ([111, 108, 100] : List UInt8), ([97] : List UInt8)]).bind fun y15 =>
  if (decide (y.1 = (3 : Int))) = true then
   (spec_l01PickInt y15.2 [(0 : Int), (1 : Int), (8 : Int), (4 : Int), (9 : Int)]).bind fun y16 =>
   (spec_l07Mail y16.2).bind fun y17 =>
   some ((y.1, y15.1, ([] : List UInt8), ([] : List (Int × Int)), (0 : Int), y16.1, (0 : Int), y17.1), y17.2)
  else
  if (decide (y.1 = (4 : Int))) = true then
   (spec_l05Draw y15.2).bind fun y18 =>
   (spec_l01Below y18.2 (3 : Int)).bind fun y19 =>
   (spec_l01PickInt y19.2 [(1 : Int), (8 : Int), (8 : Int), (4 : Int), (31 : Int)]).bind fun y20 =>
   (spec_l01PickInt y20.2 [(-1 : Int), (-1 : Int), (3 : Int), (9 : Int)]).bind fun y21 =>
   some ((y.1, y15.1, ([] : List UInt8), y18.1, (w64 ((1 : Int) + y19.1)), y20.1, y21.1, ([] : List UInt8)), y21.2)
  else
  if (decide (y.1 = (5 : Int))) = true then
   some ((y.1, y15.1, ([] : List UInt8), [((1 : Int), (9999 : Int))], (0 : Int), (0 : Int), (0 : Int), ([] : List UInt8)), y15.2)
  else
  if (decide (y.1 = (6 : Int))) = true then
   if (decide (y.1 = (6 : Int))) = true then
    (spec_l05Draw y15.2).bind fun y22 =>
    (spec_l01Pick y22.2 [([119, 111, 114, 107] : List UInt8), ([111, 108, 100] : List UInt8), ([105, 110, 98, 111, 120] : List UInt8)]).bind fun y23 =>
    some ((y.1, y15.1, y23.1, y22.1, (0 : Int), (0 : Int), (0 : Int), ([] : List UInt8)), y23.2)
   else
   if (decide (y.1 = (8 : Int))) = true then
    (spec_l01Below y15.2 (9 : Int)).bind fun y24 =>
    some ((y.1, y15.1, ([] : List UInt8), ([] : List (Int × Int)), (0 : Int), (0 : Int), y24.1, ([] : List UInt8)), y24.2)
   else
   some ((y.1, y15.1, ([] : List UInt8), ([] : List (Int × Int)), (0 : Int), (0 : Int), (0 : Int), ([] : List UInt8)), y15.2)
  else
  if (decide (y.1 = (7 : Int))) = true then
   (spec_l05Draw y15.2).bind fun y25 =>
   (spec_l01Pick y25.2 [([119, 111, 114, 107] : List UInt8), ([111, 108, 100] : List UInt8), ([105, 110, 98, 111, 120] : List UInt8)]).bind fun y26 =>
   some ((y.1, y15.1, y26.1, y25.1, (0 : Int), (0 : Int), (0 : Int), ([] : List UInt8)), y26.2)
  else
  if (decide (y.1 = (8 : Int))) = true then
   (spec_l01Below y15.2 (9 : Int)).bind fun y27 =>
   some ((y.1, y15.1, ([] : List UInt8), ([] : List (Int × Int)), (0 : Int), (0 : Int), y27.1, ([] : List UInt8)), y27.2)
  else
  some ((y.1, y15.1, ([] : List UInt8), ([] : List (Int × Int)), (0 : Int), (0 : Int), (0 : Int), ([] : List UInt8)), y15.2)
 else
 if (decide (y.1 = (3 : Int))) = true then
  (spec_l01PickInt y1.2 [(0 : Int), (1 : Int), (8 : Int), (4 : Int), (9 : Int)]).bind fun y28 =>
  (spec_l07Mail y28.2).bind fun y29 =>
  some ((y.1, y1.1, ([] : List UInt8), ([] : List (Int × Int)), (0 : Int), y28.1, (0 : Int), y29.1), y29.2)
 else
 if (decide (y.1 = (4 : Int))) = true then
  (spec_l05Draw y1.2).bind fun y30 =>
  (spec_l01Below y30.2 (3 : Int)).bind fun y31 =>
  (spec_l01PickInt y31.2 [(1 : Int), (8 : Int), (8 : Int), (4 : Int), (31 : Int)]).bind fun y32 =>
  (spec_l01PickInt y32.2 [(-1 : Int), (-1 : Int), (3 : Int), (9 : Int)]).bind fun y33 =>
  some ((y.1, y1.1, ([] : List UInt8), y30.1, (w64 ((1 : Int) + y31.1)), y32.1, y33.1, ([] : List UInt8)), y33.2)
 else
 if (decide (y.1 = (5 : Int))) = true then
  some ((y.1, y1.1, ([] : List UInt8), [((1 : Int), (9999 : Int))], (0 : Int), (0 : Int), (0 : Int), ([] : List UInt8)), y1.2)
 else
 if (decide (y.1 = (6 : Int))) = true then
  if (decide (y.1 = (6 : Int))) = true then
   (spec_l05Draw y1.2).bind fun y34 =>
   (spec_l01Pick y34.2 [([119, 111, 114, 107] : List UInt8), ([111, 108, 100] : List UInt8), ([105, 110, 98, 111, 120] : List UInt8)]).bind fun y35 =>
   some ((y.1, y1.1, y35.1, y34.1, (0 : Int), (0 : Int), (0 : Int), ([] : List UInt8)), y35.2)
  else
  if (decide (y.1 = (8 : Int))) = true then
   (spec_l01Below y1.2 (9 : Int)).bind fun y36 =>
   some ((y.1, y1.1, ([] : List UInt8), ([] : List (Int × Int)), (0 : Int), (0 : Int), y36.1, ([] : List UInt8)), y36.2)
  else
  some ((y.1, y1.1, ([] : List UInt8), ([] : List (Int × Int)), (0 : Int), (0 : Int), (0 : Int), ([] : List UInt8)), y1.2)
 else
 if (decide (y.1 = (7 : Int))) = true then
  (spec_l05Draw y1.2).bind fun y37 =>
  (spec_l01Pick y37.2 [([119, 111, 114, 107] : List UInt8), ([111, 108, 100] : List UInt8), ([105, 110, 98, 111, 120] : List UInt8)]).bind fun y38 =>
  some ((y.1, y1.1, y38.1, y37.1, (0 : Int), (0 : Int), (0 : Int), ([] : List UInt8)), y38.2)
 else
 if (decide (y.1 = (8 : Int))) = true then
  (spec_l01Below y1.2 (9 : Int)).bind fun y39 =>
  some ((y.1, y1.1, ([] : List UInt8), ([] : List (Int × Int)), (0 : Int), (0 : Int), y39.1, ([] : List UInt8)), y39.2)
 else
 some ((y.1, y1.1, ([] : List UInt8), ([] : List (Int × Int)), (0 : Int), (0 : Int), (0 : Int), ([] : List UInt8)), y1.2)
def spec_StoreNew : Option (List Box × Int) :=
 (spec_BoxNew ([105, 110, 98, 111, 120] : List UInt8) (1 : Int)).bind fun y =>
 some ([y.1], (2 : Int))
def spec_l09Store_L1_B (go : (Int × L01Cur × (List Box × Int)) → Option ((List Box × Int) × L01Cur)) (v : Int × L01Cur × (List Box × Int)) : Option ((List Box × Int) × L01Cur) :=
 (spec_l01Below v.2.1 (20 : Int)).bind fun y1 =>
 if (decide (v.1 < (w64 ((3 : Int) + y1.1)))) = true then
  (spec_l10Edit y1.2).bind fun y2 =>
  (spec_Apply v.2.2 y2.1).bind fun y3 =>
  go ((w64 (v.1 + (1 : Int))), y2.2, y3.1)
 else
 some (v.2.2, y1.2)
def spec_l09Store_L1 : (Int × L01Cur × (List Box × Int)) → Option ((List Box × Int) × L01Cur) := fixO (spec_l09Store_L1_B)
theorem spec_l09Store_L1_eq (v : Int × L01Cur × (List Box × Int)) : spec_l09Store_L1 v = spec_l09Store_L1_B (spec_l09Store_L1) v := by
  unfold spec_l09Store_L1; refine fixO_eq ?_ ?_ v
  · unfold spec_l09Store_L1_B; exact fun _ _ h _ => (le_bind LeO.refl fun _ => (le_ite (le_bind LeO.refl fun _ => (le_bind LeO.refl fun _ => (h _))) LeO.refl))
  · unfold spec_l09Store_L1_B; exact fun _ _ h _ => (cp_bind CpO.refl fun _ => (cp_ite (cp_bind CpO.refl fun _ => (cp_bind CpO.refl fun _ => (h _))) CpO.refl))
def spec_l09Store (c : L01Cur) : Option ((List Box × Int) × L01Cur) :=
 (spec_StoreNew).bind fun y =>
 spec_l09Store_L1 ((0 : Int), c, y)
def spec_l09Any (c : L01Cur) : Option ((List Box × Int) × L01Cur) :=
 (spec_l01Below c (14 : Int)).bind fun y =>
 (spec_l01Below y.2 (60 : Int)).bind fun y1 =>
 (spec_l09Store y1.2).bind fun y2 =>
 (spec_l09Copy y2.1).bind fun y3 =>
 if (decide (y.1 = (0 : Int))) = true then
  reqO ((4 : Int) ≠ 0) <|
  reqO (0 ≤ (y1.1.tmod (4 : Int)) ∧ (y1.1.tmod (4 : Int)) < ([(1 : Int), (2 : Int), (9999 : Int), (10000 : Int)].length : Int)) <|
  idxO [(1 : Int), (2 : Int), (9999 : Int), (10000 : Int)] (y1.1.tmod (4 : Int)) fun r =>
  some ((y3.1, r), y2.2)
 else
 if (decide (y.1 = (1 : Int))) = true then
  (spec_l08Any y2.2).bind fun y4 =>
  reqO (0 ≤ (0 : Int) ∧ (0 : Int) < (y3.1.length : Int)) <|
  some (((y3.1.set (0 : Int).toNat y4.1), y3.2), y4.2)
 else
 if (decide (y.1 = (2 : Int))) = true then
  reqO (0 ≤ (0 : Int) ∧ (0 : Int) < (y3.1.length : Int)) <|
  idxO y3.1 (0 : Int) fun r1 =>
  reqO (y3.1.length + [r1].length ≤ bound) <|
  some (((y3.1 ++ [r1]), y3.2), y2.2)
 else
 if (decide (y.1 = (3 : Int))) = true then
  reqO (0 ≤ (1 : Int) ∧ (1 : Int) ≤ (y3.1.length : Int)) <|
  some ((((y3.1.take (y3.1.length : Int).toNat).drop (1 : Int).toNat), y3.2), y2.2)
 else
 some (y3, y2.2)
def spec_DrawCopyMails (code : List Int) : Option ((List Box × Int) × List UInt8 × (List (Int × Int)) × List UInt8) :=
 (spec_l01New code).bind fun y =>
 (spec_l09Name y).bind fun y1 =>
 (spec_l09Name y1.2).bind fun y2 =>
 (spec_l05Any y2.2).bind fun y3 =>
 (spec_l09Any y3.2).bind fun y4 =>
 some (y4.1, y1.1, y3.1, y2.1)
def impl_copyBox (b : Box) : Option (Box) :=
 reqO (([] : List Mail).length + b.2.2.2.2.1.length ≤ bound) <|
 reqO (([] : List (Int × Int)).length + b.2.2.2.2.2.1.length ≤ bound) <|
 some (b.1, b.2.1, b.2.2.1, b.2.2.2.1, (([] : List Mail) ++ b.2.2.2.2.1), (([] : List (Int × Int)) ++ b.2.2.2.2.2.1), b.2.2.2.2.2.2)
def impl_copyStore_L1_B (s : List Box × Int) (go : (Int × (List Box × Int)) → Option (List Box × Int)) (v : Int × (List Box × Int)) : Option (List Box × Int) :=
 if (decide (v.1 < (s.1.length : Int))) = true then
  idxO s.1 v.1 fun r =>
  (impl_copyBox r).bind fun y =>
  reqO (v.2.1.length + [y].length ≤ bound) <|
  go ((w64 (v.1 + (1 : Int))), ((v.2.1 ++ [y]), v.2.2))
 else
 some v.2
def impl_copyStore_L1 (s : List Box × Int) : (Int × (List Box × Int)) → Option (List Box × Int) := fixO (impl_copyStore_L1_B s)
theorem impl_copyStore_L1_eq (s : List Box × Int) (v : Int × (List Box × Int)) : impl_copyStore_L1 s v = impl_copyStore_L1_B s (impl_copyStore_L1 s) v := by
  unfold impl_copyStore_L1; refine fixO_eq ?_ ?_ v
  · unfold impl_copyStore_L1_B; exact fun _ _ h _ => (le_ite (le_idx fun _ => (le_bind LeO.refl fun _ => (le_req (h _)))) LeO.refl)
  · unfold impl_copyStore_L1_B; exact fun _ _ h _ => (cp_ite (cp_idx fun _ => (cp_bind CpO.refl fun _ => (cp_req (h _)))) CpO.refl)
def impl_copyStore (s : List Box × Int) : Option (List Box × Int) :=
 impl_copyStore_L1 s ((0 : Int), (([] : List Box), s.2))
def slices_IndexFunc_impl_Box_L1_B (s : List Box) (f : (Box → Bool → Prop)) (go : Int → Option (Int)) (v : Int) : Option (Int) :=
 if (decide (v < (s.length : Int))) = true then
  idxO s v fun r =>
  (predO (f r)).bind fun t =>
  if t = true then
   some v
  else
  go (w64 (v + (1 : Int)))
 else
 some (-1 : Int)
def slices_IndexFunc_impl_Box_L1 (s : List Box) (f : (Box → Bool → Prop)) : Int → Option (Int) := fixO (slices_IndexFunc_impl_Box_L1_B s f)
theorem slices_IndexFunc_impl_Box_L1_eq (s : List Box) (f : (Box → Bool → Prop)) (v : Int) : slices_IndexFunc_impl_Box_L1 s f v = slices_IndexFunc_impl_Box_L1_B s f (slices_IndexFunc_impl_Box_L1 s f) v := by
  unfold slices_IndexFunc_impl_Box_L1; refine fixO_eq ?_ ?_ v
  · unfold slices_IndexFunc_impl_Box_L1_B; exact fun _ _ h _ => (le_ite (le_idx fun _ => (le_bind LeO.refl fun _ => (le_ite LeO.refl (h _)))) LeO.refl)
  · unfold slices_IndexFunc_impl_Box_L1_B; exact fun _ _ h _ => (cp_ite (cp_idx fun _ => (cp_bind CpO.refl fun _ => (cp_ite CpO.refl (h _)))) CpO.refl)
def slices_IndexFunc_impl_Box (s : List Box) (f : (Box → Bool → Prop)) : Option (Int) :=
 slices_IndexFunc_impl_Box_L1 s f (0 : Int)
def impl_boxAt_c1 (b : Box) (c : List UInt8) : Option (Bool) :=
 some (decide (b.1 = c))
def impl_boxAt (s : List Box × Int) (name : List UInt8) : Option (Int) :=
 (slices_IndexFunc_impl_Box s.1 (fun (e : Box) t => impl_boxAt_c1 e name = some t)).bind fun n =>
 some n
def impl_PutBox (s : List Box × Int) (b : Box) : Option (List Box × Int) :=
 (impl_copyStore s).bind fun y =>
 (impl_boxAt s b.1).bind fun n =>
 if (decide ((0 : Int) ≤ n)) = true then
  (impl_copyBox b).bind fun y1 =>
  reqO (0 ≤ n ∧ n < (y.1.length : Int)) <|
  some ((y.1.set n.toNat y1), y.2)
 else
 some y
def impl_within (n : Int) (low : Int) (high : Int) : Option (Bool) :=
 if (decide (low ≤ n)) = true then
  some (decide (n ≤ high))
 else
 some false
def impl_BoxName_L1_B (s : List UInt8) (go : Int → Option (Bool)) (v : Int) : Option (Bool) :=
 if (decide (v < (s.length : Int))) = true then
  reqO (0 ≤ v ∧ v < (s.length : Int)) <|
  (impl_within (w64 (byteAt s v)) (97 : Int) (122 : Int)).bind fun t =>
  if (!t) = true then
   some false
  else
  go (w64 (v + (1 : Int)))
 else
 (impl_within (s.length : Int) (1 : Int) (8 : Int)).bind fun t1 =>
 some t1
def impl_BoxName_L1 (s : List UInt8) : Int → Option (Bool) := fixO (impl_BoxName_L1_B s)
theorem impl_BoxName_L1_eq (s : List UInt8) (v : Int) : impl_BoxName_L1 s v = impl_BoxName_L1_B s (impl_BoxName_L1 s) v := by
  unfold impl_BoxName_L1; refine fixO_eq ?_ ?_ v
  · unfold impl_BoxName_L1_B; exact fun _ _ h _ => (le_ite (le_req (le_bind LeO.refl fun _ => (le_ite LeO.refl (h _)))) LeO.refl)
  · unfold impl_BoxName_L1_B; exact fun _ _ h _ => (cp_ite (cp_req (cp_bind CpO.refl fun _ => (cp_ite CpO.refl (h _)))) CpO.refl)
def impl_BoxName (s : List UInt8) : Option (Bool) :=
 impl_BoxName_L1 s (0 : Int)
def impl_isUid (n : Int) : Option (Bool) :=
 (impl_within n (1 : Int) (9999 : Int)).bind fun t =>
 some t
def impl_FlagsOk (bits : Int) : Option (Bool) :=
 (impl_within bits (0 : Int) (31 : Int)).bind fun t =>
 some t
def impl_MailOk (t : List UInt8) : Option (Bool) :=
 (impl_within (t.length : Int) (1 : Int) (200 : Int)).bind fun t1 =>
 if t1 = true then
  (strings_IndexByte t (0 : Int)).bind fun n =>
  some (decide (n < (0 : Int)))
 else
 some false
def impl_mailsOk_L1_B (b : Box) (go : Int → Option (Bool)) (v : Int) : Option (Bool) :=
 if (decide (v < (b.2.2.2.2.1.length : Int))) = true then
  idxO b.2.2.2.2.1 v fun r =>
  (impl_within r.1 (1 : Int) (w64 (b.2.2.1 - (1 : Int)))).bind fun t =>
  if (!t) = true then
   some false
  else
  if (decide ((0 : Int) < v)) = true then
   idxO b.2.2.2.2.1 (w64 (v - (1 : Int))) fun r1 =>
   if (decide (r.1 ≤ r1.1)) = true then
    some false
   else
   (impl_FlagsOk r.2.1).bind fun t1 =>
   if (!t1) = true then
    some false
   else
   (impl_within r.2.2.1 (1 : Int) b.2.2.2.1).bind fun t2 =>
   if (!t2) = true then
    some false
   else
   (impl_MailOk r.2.2.2).bind fun t3 =>
   if (!t3) = true then
    some false
   else
   go (w64 (v + (1 : Int)))
  else
  (impl_FlagsOk r.2.1).bind fun t4 =>
  if (!t4) = true then
   some false
  else
  (impl_within r.2.2.1 (1 : Int) b.2.2.2.1).bind fun t5 =>
  if (!t5) = true then
   some false
  else
  (impl_MailOk r.2.2.2).bind fun t6 =>
  if (!t6) = true then
   some false
  else
  go (w64 (v + (1 : Int)))
 else
 some (decide ((b.2.2.2.2.1.length : Int) ≤ (30 : Int)))
def impl_mailsOk_L1 (b : Box) : Int → Option (Bool) := fixO (impl_mailsOk_L1_B b)
theorem impl_mailsOk_L1_eq (b : Box) (v : Int) : impl_mailsOk_L1 b v = impl_mailsOk_L1_B b (impl_mailsOk_L1 b) v := by
  unfold impl_mailsOk_L1; refine fixO_eq ?_ ?_ v
  · unfold impl_mailsOk_L1_B; exact fun _ _ h _ => (le_ite (le_idx fun _ => (le_bind LeO.refl fun _ => (le_ite LeO.refl (le_ite (le_idx fun _ => (le_ite LeO.refl (le_bind LeO.refl fun _ => (le_ite LeO.refl (le_bind LeO.refl fun _ => (le_ite LeO.refl (le_bind LeO.refl fun _ => (le_ite LeO.refl (h _))))))))) (le_bind LeO.refl fun _ => (le_ite LeO.refl (le_bind LeO.refl fun _ => (le_ite LeO.refl (le_bind LeO.refl fun _ => (le_ite LeO.refl (h _))))))))))) LeO.refl)
  · unfold impl_mailsOk_L1_B; exact fun _ _ h _ => (cp_ite (cp_idx fun _ => (cp_bind CpO.refl fun _ => (cp_ite CpO.refl (cp_ite (cp_idx fun _ => (cp_ite CpO.refl (cp_bind CpO.refl fun _ => (cp_ite CpO.refl (cp_bind CpO.refl fun _ => (cp_ite CpO.refl (cp_bind CpO.refl fun _ => (cp_ite CpO.refl (h _))))))))) (cp_bind CpO.refl fun _ => (cp_ite CpO.refl (cp_bind CpO.refl fun _ => (cp_ite CpO.refl (cp_bind CpO.refl fun _ => (cp_ite CpO.refl (h _))))))))))) CpO.refl)
def impl_mailsOk (b : Box) : Option (Bool) :=
 impl_mailsOk_L1 b (0 : Int)
def slices_IndexFunc_impl_Tomb_L1_B (s : List (Int × Int)) (f : ((Int × Int) → Bool → Prop)) (go : Int → Option (Int)) (v : Int) : Option (Int) :=
 if (decide (v < (s.length : Int))) = true then
  idxO s v fun r =>
  (predO (f r)).bind fun t =>
  if t = true then
   some v
  else
  go (w64 (v + (1 : Int)))
 else
 some (-1 : Int)
def slices_IndexFunc_impl_Tomb_L1 (s : List (Int × Int)) (f : ((Int × Int) → Bool → Prop)) : Int → Option (Int) := fixO (slices_IndexFunc_impl_Tomb_L1_B s f)
theorem slices_IndexFunc_impl_Tomb_L1_eq (s : List (Int × Int)) (f : ((Int × Int) → Bool → Prop)) (v : Int) : slices_IndexFunc_impl_Tomb_L1 s f v = slices_IndexFunc_impl_Tomb_L1_B s f (slices_IndexFunc_impl_Tomb_L1 s f) v := by
  unfold slices_IndexFunc_impl_Tomb_L1; refine fixO_eq ?_ ?_ v
  · unfold slices_IndexFunc_impl_Tomb_L1_B; exact fun _ _ h _ => (le_ite (le_idx fun _ => (le_bind LeO.refl fun _ => (le_ite LeO.refl (h _)))) LeO.refl)
  · unfold slices_IndexFunc_impl_Tomb_L1_B; exact fun _ _ h _ => (cp_ite (cp_idx fun _ => (cp_bind CpO.refl fun _ => (cp_ite CpO.refl (h _)))) CpO.refl)
def slices_IndexFunc_impl_Tomb (s : List (Int × Int)) (f : ((Int × Int) → Bool → Prop)) : Option (Int) :=
 slices_IndexFunc_impl_Tomb_L1 s f (0 : Int)
def slices_ContainsFunc_impl_Tomb (s : List (Int × Int)) (f : ((Int × Int) → Bool → Prop)) : Option (Bool) :=
 (slices_IndexFunc_impl_Tomb s f).bind fun n =>
 some (decide ((0 : Int) ≤ n))
def impl_tombsOk_c1 (x : Int × Int) (c : Int × Int) : Option (Bool) :=
 some (decide (x.1 = c.1))
def slices_IndexFunc_impl_Mail_L1_B (s : List Mail) (f : (Mail → Bool → Prop)) (go : Int → Option (Int)) (v : Int) : Option (Int) :=
 if (decide (v < (s.length : Int))) = true then
  idxO s v fun r =>
  (predO (f r)).bind fun t =>
  if t = true then
   some v
  else
  go (w64 (v + (1 : Int)))
 else
 some (-1 : Int)
def slices_IndexFunc_impl_Mail_L1 (s : List Mail) (f : (Mail → Bool → Prop)) : Int → Option (Int) := fixO (slices_IndexFunc_impl_Mail_L1_B s f)
theorem slices_IndexFunc_impl_Mail_L1_eq (s : List Mail) (f : (Mail → Bool → Prop)) (v : Int) : slices_IndexFunc_impl_Mail_L1 s f v = slices_IndexFunc_impl_Mail_L1_B s f (slices_IndexFunc_impl_Mail_L1 s f) v := by
  unfold slices_IndexFunc_impl_Mail_L1; refine fixO_eq ?_ ?_ v
  · unfold slices_IndexFunc_impl_Mail_L1_B; exact fun _ _ h _ => (le_ite (le_idx fun _ => (le_bind LeO.refl fun _ => (le_ite LeO.refl (h _)))) LeO.refl)
  · unfold slices_IndexFunc_impl_Mail_L1_B; exact fun _ _ h _ => (cp_ite (cp_idx fun _ => (cp_bind CpO.refl fun _ => (cp_ite CpO.refl (h _)))) CpO.refl)
def slices_IndexFunc_impl_Mail (s : List Mail) (f : (Mail → Bool → Prop)) : Option (Int) :=
 slices_IndexFunc_impl_Mail_L1 s f (0 : Int)
def impl_mailAt_c1 (m : Mail) (c : Int) : Option (Bool) :=
 some (decide (m.1 = c))
def impl_mailAt (b : Box) (uid : Int) : Option (Int) :=
 (slices_IndexFunc_impl_Mail b.2.2.2.2.1 (fun (e : Mail) t => impl_mailAt_c1 e uid = some t)).bind fun n =>
 some n
def impl_tombsOk_L1_B (b : Box) (go : Int → Option (Bool)) (v : Int) : Option (Bool) :=
 if (decide (v < (b.2.2.2.2.2.1.length : Int))) = true then
  idxO b.2.2.2.2.2.1 v fun r =>
  reqO (0 ≤ v ∧ v ≤ (b.2.2.2.2.2.1.length : Int)) <|
  (slices_ContainsFunc_impl_Tomb (b.2.2.2.2.2.1.take v.toNat) (fun (e : Int × Int) t => impl_tombsOk_c1 e r = some t)).bind fun t =>
  (impl_within r.1 (1 : Int) (w64 (b.2.2.1 - (1 : Int)))).bind fun t1 =>
  if (!t1) = true then
   some false
  else
  (impl_within r.2 (w64 (b.2.2.2.2.2.2 + (1 : Int))) b.2.2.2.1).bind fun t2 =>
  if (!t2) = true then
   some false
  else
  if t = true then
   some false
  else
  (impl_mailAt b r.1).bind fun n =>
  if (decide ((0 : Int) ≤ n)) = true then
   some false
  else
  if (decide ((0 : Int) < v)) = true then
   idxO b.2.2.2.2.2.1 (w64 (v - (1 : Int))) fun r1 =>
   if (decide (r.2 < r1.2)) = true then
    some false
   else
   idxO b.2.2.2.2.2.1 (w64 (v - (1 : Int))) fun r2 =>
   if (decide (r2.2 = r.2)) = true then
    idxO b.2.2.2.2.2.1 (w64 (v - (1 : Int))) fun r3 =>
    if (decide (r.1 ≤ r3.1)) = true then
     some false
    else
    go (w64 (v + (1 : Int)))
   else
   go (w64 (v + (1 : Int)))
  else
  go (w64 (v + (1 : Int)))
 else
 some (decide ((b.2.2.2.2.2.1.length : Int) ≤ (40 : Int)))
def impl_tombsOk_L1 (b : Box) : Int → Option (Bool) := fixO (impl_tombsOk_L1_B b)
theorem impl_tombsOk_L1_eq (b : Box) (v : Int) : impl_tombsOk_L1 b v = impl_tombsOk_L1_B b (impl_tombsOk_L1 b) v := by
  unfold impl_tombsOk_L1; refine fixO_eq ?_ ?_ v
  · unfold impl_tombsOk_L1_B; exact fun _ _ h _ => (le_ite (le_idx fun _ => (le_req (le_bind LeO.refl fun _ => (le_bind LeO.refl fun _ => (le_ite LeO.refl (le_bind LeO.refl fun _ => (le_ite LeO.refl (le_ite LeO.refl (le_bind LeO.refl fun _ => (le_ite LeO.refl (le_ite (le_idx fun _ => (le_ite LeO.refl (le_idx fun _ => (le_ite (le_idx fun _ => (le_ite LeO.refl (h _))) (h _))))) (h _)))))))))))) LeO.refl)
  · unfold impl_tombsOk_L1_B; exact fun _ _ h _ => (cp_ite (cp_idx fun _ => (cp_req (cp_bind CpO.refl fun _ => (cp_bind CpO.refl fun _ => (cp_ite CpO.refl (cp_bind CpO.refl fun _ => (cp_ite CpO.refl (cp_ite CpO.refl (cp_bind CpO.refl fun _ => (cp_ite CpO.refl (cp_ite (cp_idx fun _ => (cp_ite CpO.refl (cp_idx fun _ => (cp_ite (cp_idx fun _ => (cp_ite CpO.refl (h _))) (h _))))) (h _)))))))))))) CpO.refl)
def impl_tombsOk (b : Box) : Option (Bool) :=
 impl_tombsOk_L1 b (0 : Int)
def impl_BoxOk (b : Box) : Option (Bool) :=
 (impl_isUid b.2.1).bind fun t =>
 if t = true then
  (impl_isUid b.2.2.1).bind fun t1 =>
  if t1 = true then
   (impl_within b.2.2.2.1 (1 : Int) (100000 : Int)).bind fun t2 =>
   if t2 = true then
    (impl_within b.2.2.2.2.2.2 (0 : Int) b.2.2.2.1).bind fun t3 =>
    (impl_BoxName b.1).bind fun t4 =>
    if t4 = true then
     if t3 = true then
      (impl_mailsOk b).bind fun t5 =>
      if t5 = true then
       (impl_tombsOk b).bind fun t6 =>
       some t6
      else
      some false
     else
     some false
    else
    some false
   else
   (impl_BoxName b.1).bind fun t7 =>
   if t7 = true then
    some false
   else
   some false
  else
  (impl_BoxName b.1).bind fun t8 =>
  if t8 = true then
   some false
  else
  some false
 else
 (impl_BoxName b.1).bind fun t9 =>
 if t9 = true then
  some false
 else
 some false
def impl_StoreOk_L1_B (s : List Box × Int) (go : Int → Option (Bool)) (v : Int) : Option (Bool) :=
 if (decide (v < (s.1.length : Int))) = true then
  idxO s.1 v fun r =>
  (impl_BoxOk r).bind fun t =>
  if (!t) = true then
   some false
  else
  if (decide ((0 : Int) < v)) = true then
   idxO s.1 (w64 (v - (1 : Int))) fun r1 =>
   if (!(Op.bytesLess r1.1 r.1)) = true then
    some false
   else
   if (decide (s.2 ≤ r.2.1)) = true then
    some false
   else
   go (w64 (v + (1 : Int)))
  else
  if (decide (s.2 ≤ r.2.1)) = true then
   some false
  else
  go (w64 (v + (1 : Int)))
 else
 (impl_within (s.1.length : Int) (1 : Int) (4 : Int)).bind fun t1 =>
 if t1 = true then
  (impl_within s.2 (2 : Int) (9999 : Int)).bind fun t2 =>
  some t2
 else
 some false
def impl_StoreOk_L1 (s : List Box × Int) : Int → Option (Bool) := fixO (impl_StoreOk_L1_B s)
theorem impl_StoreOk_L1_eq (s : List Box × Int) (v : Int) : impl_StoreOk_L1 s v = impl_StoreOk_L1_B s (impl_StoreOk_L1 s) v := by
  unfold impl_StoreOk_L1; refine fixO_eq ?_ ?_ v
  · unfold impl_StoreOk_L1_B; exact fun _ _ h _ => (le_ite (le_idx fun _ => (le_bind LeO.refl fun _ => (le_ite LeO.refl (le_ite (le_idx fun _ => (le_ite LeO.refl (le_ite LeO.refl (h _)))) (le_ite LeO.refl (h _)))))) LeO.refl)
  · unfold impl_StoreOk_L1_B; exact fun _ _ h _ => (cp_ite (cp_idx fun _ => (cp_bind CpO.refl fun _ => (cp_ite CpO.refl (cp_ite (cp_idx fun _ => (cp_ite CpO.refl (cp_ite CpO.refl (h _)))) (cp_ite CpO.refl (h _)))))) CpO.refl)
def impl_StoreOk (s : List Box × Int) : Option (Bool) :=
 impl_StoreOk_L1 s (0 : Int)
def impl_SetOk_L1_B (s : List (Int × Int)) (go : Int → Option (Bool)) (v : Int) : Option (Bool) :=
 if (decide (v < (s.length : Int))) = true then
  idxO s v fun r =>
  (impl_isUid r.1).bind fun t =>
  if (!t) = true then
   some false
  else
  (impl_within r.2 r.1 (9999 : Int)).bind fun t1 =>
  if (!t1) = true then
   some false
  else
  if (decide ((0 : Int) < v)) = true then
   idxO s (w64 (v - (1 : Int))) fun r1 =>
   if (decide (r.1 ≤ (w64 (r1.2 + (1 : Int))))) = true then
    some false
   else
   go (w64 (v + (1 : Int)))
  else
  go (w64 (v + (1 : Int)))
 else
 some (decide ((s.length : Int) ≤ (40 : Int)))
def impl_SetOk_L1 (s : List (Int × Int)) : Int → Option (Bool) := fixO (impl_SetOk_L1_B s)
theorem impl_SetOk_L1_eq (s : List (Int × Int)) (v : Int) : impl_SetOk_L1 s v = impl_SetOk_L1_B s (impl_SetOk_L1 s) v := by
  unfold impl_SetOk_L1; refine fixO_eq ?_ ?_ v
  · unfold impl_SetOk_L1_B; exact fun _ _ h _ => (le_ite (le_idx fun _ => (le_bind LeO.refl fun _ => (le_ite LeO.refl (le_bind LeO.refl fun _ => (le_ite LeO.refl (le_ite (le_idx fun _ => (le_ite LeO.refl (h _))) (h _))))))) LeO.refl)
  · unfold impl_SetOk_L1_B; exact fun _ _ h _ => (cp_ite (cp_idx fun _ => (cp_bind CpO.refl fun _ => (cp_ite CpO.refl (cp_bind CpO.refl fun _ => (cp_ite CpO.refl (cp_ite (cp_idx fun _ => (cp_ite CpO.refl (h _))) (h _))))))) CpO.refl)
def impl_SetOk (s : List (Int × Int)) : Option (Bool) :=
 impl_SetOk_L1 s (0 : Int)
def impl_BoxAt (s : List Box × Int) (name : List UInt8) : Option (Box × Bool) :=
 (impl_boxAt s name).bind fun n =>
 if (decide (n < (0 : Int))) = true then
  some ((([] : List UInt8), (0 : Int), (0 : Int), (0 : Int), ([] : List Mail), ([] : List (Int × Int)), (0 : Int)), false)
 else
 idxO s.1 n fun r =>
 (impl_copyBox r).bind fun y =>
 some (y, true)
def impl_SetHas_L1_B (s : List (Int × Int)) (n : Int) (go : Int → Option (Bool)) (v : Int) : Option (Bool) :=
 if (decide (v < (s.length : Int))) = true then
  idxO s v fun r =>
  (impl_within n r.1 r.2).bind fun t =>
  if t = true then
   some true
  else
  go (w64 (v + (1 : Int)))
 else
 some false
def impl_SetHas_L1 (s : List (Int × Int)) (n : Int) : Int → Option (Bool) := fixO (impl_SetHas_L1_B s n)
theorem impl_SetHas_L1_eq (s : List (Int × Int)) (n : Int) (v : Int) : impl_SetHas_L1 s n v = impl_SetHas_L1_B s n (impl_SetHas_L1 s n) v := by
  unfold impl_SetHas_L1; refine fixO_eq ?_ ?_ v
  · unfold impl_SetHas_L1_B; exact fun _ _ h _ => (le_ite (le_idx fun _ => (le_bind LeO.refl fun _ => (le_ite LeO.refl (h _)))) LeO.refl)
  · unfold impl_SetHas_L1_B; exact fun _ _ h _ => (cp_ite (cp_idx fun _ => (cp_bind CpO.refl fun _ => (cp_ite CpO.refl (h _)))) CpO.refl)
def impl_SetHas (s : List (Int × Int)) (n : Int) : Option (Bool) :=
 impl_SetHas_L1 s n (0 : Int)
def impl_AddMail (b : Box) (flags : Int) (text : List UInt8) : Option (Box × Int) :=
 (impl_copyBox b).bind fun y =>
 reqO (y.2.2.2.2.1.length + [(b.2.2.1, flags, (w64 (b.2.2.2.1 + (1 : Int))), text)].length ≤ bound) <|
 (impl_BoxOk b).bind fun t =>
 if (!t) = true then
  (impl_copyBox b).bind fun y1 =>
  some (y1, (0 : Int))
 else
 (impl_BoxOk (y.1, y.2.1, (w64 (y.2.2.1 + (1 : Int))), (w64 (y.2.2.2.1 + (1 : Int))), (y.2.2.2.2.1 ++ [(b.2.2.1, flags, (w64 (b.2.2.2.1 + (1 : Int))), text)]), y.2.2.2.2.2.1, y.2.2.2.2.2.2)).bind fun t1 =>
 if (!t1) = true then
  (impl_copyBox b).bind fun y2 =>
  some (y2, (0 : Int))
 else
 some ((y.1, y.2.1, (w64 (y.2.2.1 + (1 : Int))), (w64 (y.2.2.2.1 + (1 : Int))), (y.2.2.2.2.1 ++ [(b.2.2.1, flags, (w64 (b.2.2.2.1 + (1 : Int))), text)]), y.2.2.2.2.2.1, y.2.2.2.2.2.2), b.2.2.1)
def impl_CopyMails_L1_B (s : List Box × Int) (set0 : List (Int × Int)) (y2 : Box × Bool) (go : (Int × (List Box × Int) × Box) → Option ((List Box × Int) × Int)) (v : Int × (List Box × Int) × Box) : Option ((List Box × Int) × Int) :=
 if (decide (v.1 < (y2.1.2.2.2.2.1.length : Int))) = true then
  reqO (0 ≤ v.1 ∧ v.1 < (y2.1.2.2.2.2.1.length : Int)) <|
  idxO y2.1.2.2.2.2.1 v.1 fun r =>
  (impl_SetHas set0 r.1).bind fun t2 =>
  if (!t2) = true then
   go ((w64 (v.1 + (1 : Int))), v.2.1, v.2.2)
  else
  (impl_AddMail v.2.2 r.2.1 r.2.2.2).bind fun y6 =>
  if (decide (y6.2 = (0 : Int))) = true then
   (impl_copyStore s).bind fun y7 =>
   some (y7, (3 : Int))
  else
  go ((w64 (v.1 + (1 : Int))), v.2.1, y6.1)
 else
 (impl_PutBox s v.2.2).bind fun y8 =>
 some (y8, (0 : Int))
def impl_CopyMails_L1 (s : List Box × Int) (set0 : List (Int × Int)) (y2 : Box × Bool) : (Int × (List Box × Int) × Box) → Option ((List Box × Int) × Int) := fixO (impl_CopyMails_L1_B s set0 y2)
theorem impl_CopyMails_L1_eq (s : List Box × Int) (set0 : List (Int × Int)) (y2 : Box × Bool) (v : Int × (List Box × Int) × Box) : impl_CopyMails_L1 s set0 y2 v = impl_CopyMails_L1_B s set0 y2 (impl_CopyMails_L1 s set0 y2) v := by
  unfold impl_CopyMails_L1; refine fixO_eq ?_ ?_ v
  · unfold impl_CopyMails_L1_B; exact fun _ _ h _ => (le_ite (le_req (le_idx fun _ => (le_bind LeO.refl fun _ => (le_ite (h _) (le_bind LeO.refl fun _ => (le_ite LeO.refl (h _))))))) LeO.refl)
  · unfold impl_CopyMails_L1_B; exact fun _ _ h _ => (cp_ite (cp_req (cp_idx fun _ => (cp_bind CpO.refl fun _ => (cp_ite (h _) (cp_bind CpO.refl fun _ => (cp_ite CpO.refl (h _))))))) CpO.refl)
def impl_CopyMails (s : List Box × Int) (from0 : List UInt8) (set0 : List (Int × Int)) (to : List UInt8) : Option ((List Box × Int) × Int) :=
 (impl_StoreOk s).bind fun t =>
 if (!t) = true then
  (impl_copyStore s).bind fun y =>
  some (y, (4 : Int))
 else
 (impl_SetOk set0).bind fun t1 =>
 if (!t1) = true then
  (impl_copyStore s).bind fun y1 =>
  some (y1, (4 : Int))
 else
 (impl_BoxAt s from0).bind fun y2 =>
 (impl_BoxAt s to).bind fun y3 =>
 if (!y2.2) = true then
  (impl_copyStore s).bind fun y4 =>
  some (y4, (1 : Int))
 else
 if (!y3.2) = true then
  (impl_copyStore s).bind fun y5 =>
  some (y5, (1 : Int))
 else
 impl_CopyMails_L1 s set0 y2 ((0 : Int), (([] : List Box), (0 : Int)), y3.1)
def impl_FlagsAfter (old : Int) (how : Int) (bits : Int) : Option (Int) :=
 (impl_FlagsOk old).bind fun t =>
 if (!t) = true then
  some old
 else
 (impl_FlagsOk bits).bind fun t1 =>
 if (!t1) = true then
  some old
 else
 if (decide (how = (1 : Int))) = true then
  some bits
 else
 if (decide (how = (2 : Int))) = true then
  some (orI .i64 old bits)
 else
 if (decide (how = (3 : Int))) = true then
  some (andNotI .i64 old bits)
 else
 some old
def impl_setOfList_L1_B (list : List Int) (go : ((List (Int × Int)) × Int) → Option ((List (Int × Int)) × Bool)) (v : (List (Int × Int)) × Int) : Option ((List (Int × Int)) × Bool) :=
 if (decide (v.2 < (list.length : Int))) = true then
  idxO list v.2 fun r =>
  if (decide ((0 : Int) ≤ (w64 ((v.1.length : Int) - (1 : Int))))) = true then
   reqO (0 ≤ (w64 ((v.1.length : Int) - (1 : Int))) ∧ (w64 ((v.1.length : Int) - (1 : Int))) < (v.1.length : Int)) <|
   idxO v.1 (w64 ((v.1.length : Int) - (1 : Int))) fun r1 =>
   if (decide (r1.2 = (w64 (r - (1 : Int))))) = true then
    reqO (0 ≤ (w64 ((v.1.length : Int) - (1 : Int))) ∧ (w64 ((v.1.length : Int) - (1 : Int))) < (v.1.length : Int)) <|
    go ((v.1.modify (w64 ((v.1.length : Int) - (1 : Int))).toNat (fun q => (q.1, r))), (w64 (v.2 + (1 : Int))))
   else
   reqO (v.1.length + [(r, r)].length ≤ bound) <|
   go ((v.1 ++ [(r, r)]), (w64 (v.2 + (1 : Int))))
  else
  reqO (v.1.length + [(r, r)].length ≤ bound) <|
  go ((v.1 ++ [(r, r)]), (w64 (v.2 + (1 : Int))))
 else
 (impl_SetOk v.1).bind fun t =>
 some (v.1, t)
def impl_setOfList_L1 (list : List Int) : ((List (Int × Int)) × Int) → Option ((List (Int × Int)) × Bool) := fixO (impl_setOfList_L1_B list)
theorem impl_setOfList_L1_eq (list : List Int) (v : (List (Int × Int)) × Int) : impl_setOfList_L1 list v = impl_setOfList_L1_B list (impl_setOfList_L1 list) v := by
  unfold impl_setOfList_L1; refine fixO_eq ?_ ?_ v
  · unfold impl_setOfList_L1_B; exact fun _ _ h _ => (le_ite (le_idx fun _ => (le_ite (le_req (le_idx fun _ => (le_ite (le_req (h _)) (le_req (h _))))) (le_req (h _)))) LeO.refl)
  · unfold impl_setOfList_L1_B; exact fun _ _ h _ => (cp_ite (cp_idx fun _ => (cp_ite (cp_req (cp_idx fun _ => (cp_ite (cp_req (h _)) (cp_req (h _))))) (cp_req (h _)))) CpO.refl)
def impl_setOfList (list : List Int) : Option ((List (Int × Int)) × Bool) :=
 impl_setOfList_L1 list (([] : List (Int × Int)), (0 : Int))
def impl_SetFlags_L1_B (b : Box) (s : List (Int × Int)) (how : Int) (bits : Int) (since : Int) (go : (List Int × List Int × Int × Box) → Option (Box × (List (Int × Int)) × (List (Int × Int)))) (v : List Int × List Int × Int × Box) : Option (Box × (List (Int × Int)) × (List (Int × Int))) :=
 if (decide (v.2.2.1 < (b.2.2.2.2.1.length : Int))) = true then
  idxO b.2.2.2.2.1 v.2.2.1 fun r =>
  (impl_SetHas s r.1).bind fun t4 =>
  if (!t4) = true then
   go (v.1, v.2.1, (w64 (v.2.2.1 + (1 : Int))), v.2.2.2)
  else
  if (decide ((0 : Int) ≤ since)) = true then
   if (decide (since < r.2.2.1)) = true then
    reqO (v.2.1.length + [r.1].length ≤ bound) <|
    go (v.1, (v.2.1 ++ [r.1]), (w64 (v.2.2.1 + (1 : Int))), v.2.2.2)
   else
   (impl_FlagsAfter r.2.1 how bits).bind fun n =>
   if (!decide (n = r.2.1)) = true then
    reqO (0 ≤ v.2.2.1 ∧ v.2.2.1 < (v.2.2.2.2.2.2.2.1.length : Int)) <|
    reqO (0 ≤ v.2.2.1 ∧ v.2.2.1 < ((v.2.2.2.2.2.2.2.1.modify v.2.2.1.toNat (fun q => (q.1, n, q.2.2.1, q.2.2.2))).length : Int)) <|
    reqO (v.1.length + [r.1].length ≤ bound) <|
    go ((v.1 ++ [r.1]), v.2.1, (w64 (v.2.2.1 + (1 : Int))), (v.2.2.2.1, v.2.2.2.2.1, v.2.2.2.2.2.1, v.2.2.2.2.2.2.1, ((v.2.2.2.2.2.2.2.1.modify v.2.2.1.toNat (fun q => (q.1, n, q.2.2.1, q.2.2.2))).modify v.2.2.1.toNat (fun q => (q.1, q.2.1, (w64 (b.2.2.2.1 + (1 : Int))), q.2.2.2))), v.2.2.2.2.2.2.2.2.1, v.2.2.2.2.2.2.2.2.2))
   else
   go (v.1, v.2.1, (w64 (v.2.2.1 + (1 : Int))), v.2.2.2)
  else
  (impl_FlagsAfter r.2.1 how bits).bind fun n1 =>
  if (!decide (n1 = r.2.1)) = true then
   reqO (0 ≤ v.2.2.1 ∧ v.2.2.1 < (v.2.2.2.2.2.2.2.1.length : Int)) <|
   reqO (0 ≤ v.2.2.1 ∧ v.2.2.1 < ((v.2.2.2.2.2.2.2.1.modify v.2.2.1.toNat (fun q => (q.1, n1, q.2.2.1, q.2.2.2))).length : Int)) <|
   reqO (v.1.length + [r.1].length ≤ bound) <|
   go ((v.1 ++ [r.1]), v.2.1, (w64 (v.2.2.1 + (1 : Int))), (v.2.2.2.1, v.2.2.2.2.1, v.2.2.2.2.2.1, v.2.2.2.2.2.2.1, ((v.2.2.2.2.2.2.2.1.modify v.2.2.1.toNat (fun q => (q.1, n1, q.2.2.1, q.2.2.2))).modify v.2.2.1.toNat (fun q => (q.1, q.2.1, (w64 (b.2.2.2.1 + (1 : Int))), q.2.2.2))), v.2.2.2.2.2.2.2.2.1, v.2.2.2.2.2.2.2.2.2))
  else
  go (v.1, v.2.1, (w64 (v.2.2.1 + (1 : Int))), v.2.2.2)
 else
 if (decide ((0 : Int) < (v.1.length : Int))) = true then
  (impl_BoxOk (v.2.2.2.1, v.2.2.2.2.1, v.2.2.2.2.2.1, (w64 (v.2.2.2.2.2.2.1 + (1 : Int))), v.2.2.2.2.2.2.2.1, v.2.2.2.2.2.2.2.2.1, v.2.2.2.2.2.2.2.2.2)).bind fun t5 =>
  if (!t5) = true then
   (impl_copyBox b).bind fun y5 =>
   some (y5, ([] : List (Int × Int)), ([] : List (Int × Int)))
  else
  (impl_setOfList v.1).bind fun y6 =>
  (impl_setOfList v.2.1).bind fun y7 =>
  some ((v.2.2.2.1, v.2.2.2.2.1, v.2.2.2.2.2.1, (w64 (v.2.2.2.2.2.2.1 + (1 : Int))), v.2.2.2.2.2.2.2.1, v.2.2.2.2.2.2.2.2.1, v.2.2.2.2.2.2.2.2.2), y6.1, y7.1)
 else
 (impl_BoxOk v.2.2.2).bind fun t6 =>
 if (!t6) = true then
  (impl_copyBox b).bind fun y8 =>
  some (y8, ([] : List (Int × Int)), ([] : List (Int × Int)))
 else
 (impl_setOfList v.1).bind fun y9 =>
 (impl_setOfList v.2.1).bind fun y10 =>
 some (v.2.2.2, y9.1, y10.1)
def impl_SetFlags_L1 (b : Box) (s : List (Int × Int)) (how : Int) (bits : Int) (since : Int) : (List Int × List Int × Int × Box) → Option (Box × (List (Int × Int)) × (List (Int × Int))) := fixO (impl_SetFlags_L1_B b s how bits since)
theorem impl_SetFlags_L1_eq (b : Box) (s : List (Int × Int)) (how : Int) (bits : Int) (since : Int) (v : List Int × List Int × Int × Box) : impl_SetFlags_L1 b s how bits since v = impl_SetFlags_L1_B b s how bits since (impl_SetFlags_L1 b s how bits since) v := by
  unfold impl_SetFlags_L1; refine fixO_eq ?_ ?_ v
  · unfold impl_SetFlags_L1_B; exact fun _ _ h _ => (le_ite (le_idx fun _ => (le_bind LeO.refl fun _ => (le_ite (h _) (le_ite (le_ite (le_req (h _)) (le_bind LeO.refl fun _ => (le_ite (le_req (le_req (le_req (h _)))) (h _)))) (le_bind LeO.refl fun _ => (le_ite (le_req (le_req (le_req (h _)))) (h _))))))) LeO.refl)
  · unfold impl_SetFlags_L1_B; exact fun _ _ h _ => (cp_ite (cp_idx fun _ => (cp_bind CpO.refl fun _ => (cp_ite (h _) (cp_ite (cp_ite (cp_req (h _)) (cp_bind CpO.refl fun _ => (cp_ite (cp_req (cp_req (cp_req (h _)))) (h _)))) (cp_bind CpO.refl fun _ => (cp_ite (cp_req (cp_req (cp_req (h _)))) (h _))))))) CpO.refl)
def impl_SetFlags (b : Box) (s : List (Int × Int)) (how : Int) (bits : Int) (since : Int) : Option (Box × (List (Int × Int)) × (List (Int × Int))) :=
 (impl_BoxOk b).bind fun t =>
 if (!t) = true then
  (impl_copyBox b).bind fun y =>
  some (y, ([] : List (Int × Int)), ([] : List (Int × Int)))
 else
 (impl_SetOk s).bind fun t1 =>
 if (!t1) = true then
  (impl_copyBox b).bind fun y1 =>
  some (y1, ([] : List (Int × Int)), ([] : List (Int × Int)))
 else
 (impl_within how (1 : Int) (3 : Int)).bind fun t2 =>
 if (!t2) = true then
  (impl_copyBox b).bind fun y2 =>
  some (y2, ([] : List (Int × Int)), ([] : List (Int × Int)))
 else
 (impl_FlagsOk bits).bind fun t3 =>
 if (!t3) = true then
  (impl_copyBox b).bind fun y3 =>
  some (y3, ([] : List (Int × Int)), ([] : List (Int × Int)))
 else
 (impl_copyBox b).bind fun y4 =>
 impl_SetFlags_L1 b s how bits since (([] : List Int), ([] : List Int), (0 : Int), y4)
def impl_Expunge_c1 (m : Mail) (c : List (Int × Int)) : Option (Bool) :=
 (impl_SetHas c m.1).bind fun t =>
 if t = true then
  some (!decide ((andI .i64 m.2.1 (8 : Int)) = (0 : Int)))
 else
 some false
def slices_DeleteFunc_impl_Mail_L1_B (del : (Mail → Bool → Prop)) (go : (Int × Int × List Mail) → Option (List Mail)) (v : Int × Int × List Mail) : Option (List Mail) :=
 if (decide (v.2.1 < (v.2.2.length : Int))) = true then
  reqO (0 ≤ v.2.1 ∧ v.2.1 < (v.2.2.length : Int)) <|
  idxO v.2.2 v.2.1 fun r =>
  (predO (del r)).bind fun t =>
  if (!t) = true then
   reqO (0 ≤ v.1 ∧ v.1 < (v.2.2.length : Int)) <|
   go ((w64 (v.1 + (1 : Int))), (w64 (v.2.1 + (1 : Int))), (v.2.2.set v.1.toNat r))
  else
  go (v.1, (w64 (v.2.1 + (1 : Int))), v.2.2)
 else
 reqO (0 ≤ v.1 ∧ v.1 ≤ (v.2.2.length : Int)) <|
 reqO (0 ≤ v.1 ∧ v.1 ≤ ((v.2.2.take v.1.toNat ++ List.replicate ((v.2.2.length : Int).toNat - v.1.toNat) ((0 : Int), (0 : Int), (0 : Int), ([] : List UInt8)) ++ v.2.2.drop (v.2.2.length : Int).toNat).length : Int)) <|
 some ((v.2.2.take v.1.toNat ++ List.replicate ((v.2.2.length : Int).toNat - v.1.toNat) ((0 : Int), (0 : Int), (0 : Int), ([] : List UInt8)) ++ v.2.2.drop (v.2.2.length : Int).toNat).take v.1.toNat)
def slices_DeleteFunc_impl_Mail_L1 (del : (Mail → Bool → Prop)) : (Int × Int × List Mail) → Option (List Mail) := fixO (slices_DeleteFunc_impl_Mail_L1_B del)
theorem slices_DeleteFunc_impl_Mail_L1_eq (del : (Mail → Bool → Prop)) (v : Int × Int × List Mail) : slices_DeleteFunc_impl_Mail_L1 del v = slices_DeleteFunc_impl_Mail_L1_B del (slices_DeleteFunc_impl_Mail_L1 del) v := by
  unfold slices_DeleteFunc_impl_Mail_L1; refine fixO_eq ?_ ?_ v
  · unfold slices_DeleteFunc_impl_Mail_L1_B; exact fun _ _ h _ => (le_ite (le_req (le_idx fun _ => (le_bind LeO.refl fun _ => (le_ite (le_req (h _)) (h _))))) LeO.refl)
  · unfold slices_DeleteFunc_impl_Mail_L1_B; exact fun _ _ h _ => (cp_ite (cp_req (cp_idx fun _ => (cp_bind CpO.refl fun _ => (cp_ite (cp_req (h _)) (h _))))) CpO.refl)
def slices_DeleteFunc_impl_Mail (s : List Mail) (del : (Mail → Bool → Prop)) : Option (List Mail) :=
 (slices_IndexFunc_impl_Mail s del).bind fun n =>
 if (decide (n = (-1 : Int))) = true then
  some s
 else
 slices_DeleteFunc_impl_Mail_L1 del (n, (w64 (n + (1 : Int))), s)
def slices_DeleteFunc_impl_Tomb_L1_B (del : ((Int × Int) → Bool → Prop)) (go : (Int × Int × (List (Int × Int))) → Option (List (Int × Int))) (v : Int × Int × (List (Int × Int))) : Option (List (Int × Int)) :=
 if (decide (v.2.1 < (v.2.2.length : Int))) = true then
  reqO (0 ≤ v.2.1 ∧ v.2.1 < (v.2.2.length : Int)) <|
  idxO v.2.2 v.2.1 fun r =>
  (predO (del r)).bind fun t =>
  if (!t) = true then
   reqO (0 ≤ v.1 ∧ v.1 < (v.2.2.length : Int)) <|
   go ((w64 (v.1 + (1 : Int))), (w64 (v.2.1 + (1 : Int))), (v.2.2.set v.1.toNat r))
  else
  go (v.1, (w64 (v.2.1 + (1 : Int))), v.2.2)
 else
 reqO (0 ≤ v.1 ∧ v.1 ≤ (v.2.2.length : Int)) <|
 reqO (0 ≤ v.1 ∧ v.1 ≤ ((v.2.2.take v.1.toNat ++ List.replicate ((v.2.2.length : Int).toNat - v.1.toNat) ((0 : Int), (0 : Int)) ++ v.2.2.drop (v.2.2.length : Int).toNat).length : Int)) <|
 some ((v.2.2.take v.1.toNat ++ List.replicate ((v.2.2.length : Int).toNat - v.1.toNat) ((0 : Int), (0 : Int)) ++ v.2.2.drop (v.2.2.length : Int).toNat).take v.1.toNat)
def slices_DeleteFunc_impl_Tomb_L1 (del : ((Int × Int) → Bool → Prop)) : (Int × Int × (List (Int × Int))) → Option (List (Int × Int)) := fixO (slices_DeleteFunc_impl_Tomb_L1_B del)
theorem slices_DeleteFunc_impl_Tomb_L1_eq (del : ((Int × Int) → Bool → Prop)) (v : Int × Int × (List (Int × Int))) : slices_DeleteFunc_impl_Tomb_L1 del v = slices_DeleteFunc_impl_Tomb_L1_B del (slices_DeleteFunc_impl_Tomb_L1 del) v := by
  unfold slices_DeleteFunc_impl_Tomb_L1; refine fixO_eq ?_ ?_ v
  · unfold slices_DeleteFunc_impl_Tomb_L1_B; exact fun _ _ h _ => (le_ite (le_req (le_idx fun _ => (le_bind LeO.refl fun _ => (le_ite (le_req (h _)) (h _))))) LeO.refl)
  · unfold slices_DeleteFunc_impl_Tomb_L1_B; exact fun _ _ h _ => (cp_ite (cp_req (cp_idx fun _ => (cp_bind CpO.refl fun _ => (cp_ite (cp_req (h _)) (h _))))) CpO.refl)
def slices_DeleteFunc_impl_Tomb (s : List (Int × Int)) (del : ((Int × Int) → Bool → Prop)) : Option (List (Int × Int)) :=
 (slices_IndexFunc_impl_Tomb s del).bind fun n =>
 if (decide (n = (-1 : Int))) = true then
  some s
 else
 slices_DeleteFunc_impl_Tomb_L1 del (n, (w64 (n + (1 : Int))), s)
def impl_Expunge_c2 (t : Int × Int) (c : Int) : Option (Bool) :=
 some (decide (t.2 = c))
def impl_Expunge_L2_B (b : Box) (t : Bool) (v : List Int × Int × Box) (go1 : Box → Option (Box × (List (Int × Int)))) (v1 : Box) : Option (Box × (List (Int × Int))) :=
 if (decide ((40 : Int) < (v1.2.2.2.2.2.1.length : Int))) = true then
  reqO (0 ≤ (0 : Int) ∧ (0 : Int) < (v1.2.2.2.2.2.1.length : Int)) <|
  idxO v1.2.2.2.2.2.1 (0 : Int) fun r1 =>
  (slices_DeleteFunc_impl_Tomb v1.2.2.2.2.2.1 (fun (e1 : Int × Int) t => impl_Expunge_c2 e1 r1.2 = some t)).bind fun y5 =>
  go1 (v1.1, v1.2.1, v1.2.2.1, v1.2.2.2.1, v1.2.2.2.2.1, y5, r1.2)
 else
 (impl_BoxOk v1).bind fun t3 =>
 if (!t3) = true then
  (impl_copyBox b).bind fun y6 =>
  some (y6, ([] : List (Int × Int)))
 else
 (impl_setOfList v.1).bind fun y7 =>
 some (v1, y7.1)
def impl_Expunge_L2 (b : Box) (t : Bool) (v : List Int × Int × Box) : Box → Option (Box × (List (Int × Int))) := fixO (impl_Expunge_L2_B b t v)
theorem impl_Expunge_L2_eq (b : Box) (t : Bool) (v : List Int × Int × Box) (v1 : Box) : impl_Expunge_L2 b t v v1 = impl_Expunge_L2_B b t v (impl_Expunge_L2 b t v) v1 := by
  unfold impl_Expunge_L2; refine fixO_eq ?_ ?_ v1
  · unfold impl_Expunge_L2_B; exact fun _ _ h _ => (le_ite (le_req (le_idx fun _ => (le_bind LeO.refl fun _ => (h _)))) LeO.refl)
  · unfold impl_Expunge_L2_B; exact fun _ _ h _ => (cp_ite (cp_req (cp_idx fun _ => (cp_bind CpO.refl fun _ => (h _)))) CpO.refl)
def impl_Expunge_L1_B (b : Box) (s : List (Int × Int)) (t : Bool) (go : (List Int × Int × Box) → Option (Box × (List (Int × Int)))) (v : List Int × Int × Box) : Option (Box × (List (Int × Int))) :=
 if (decide (v.2.1 < (b.2.2.2.2.1.length : Int))) = true then
  idxO b.2.2.2.2.1 v.2.1 fun r =>
  (impl_Expunge_c1 r s).bind fun t2 =>
  if t2 = true then
   reqO (v.1.length + [r.1].length ≤ bound) <|
   reqO (v.2.2.2.2.2.2.2.1.length + [(r.1, (w64 (b.2.2.2.1 + (1 : Int))))].length ≤ bound) <|
   go ((v.1 ++ [r.1]), (w64 (v.2.1 + (1 : Int))), (v.2.2.1, v.2.2.2.1, v.2.2.2.2.1, v.2.2.2.2.2.1, v.2.2.2.2.2.2.1, (v.2.2.2.2.2.2.2.1 ++ [(r.1, (w64 (b.2.2.2.1 + (1 : Int))))]), v.2.2.2.2.2.2.2.2))
  else
  go (v.1, (w64 (v.2.1 + (1 : Int))), v.2.2)
 else
 if (decide ((v.1.length : Int) = (0 : Int))) = true then
  (impl_copyBox b).bind fun y3 =>
  some (y3, ([] : List (Int × Int)))
 else
 (slices_DeleteFunc_impl_Mail v.2.2.2.2.2.2.1 (fun (e : Mail) t => impl_Expunge_c1 e s = some t)).bind fun y4 =>
 impl_Expunge_L2 b t v (v.2.2.1, v.2.2.2.1, v.2.2.2.2.1, (w64 (v.2.2.2.2.2.1 + (1 : Int))), y4, v.2.2.2.2.2.2.2.1, v.2.2.2.2.2.2.2.2)
def impl_Expunge_L1 (b : Box) (s : List (Int × Int)) (t : Bool) : (List Int × Int × Box) → Option (Box × (List (Int × Int))) := fixO (impl_Expunge_L1_B b s t)
theorem impl_Expunge_L1_eq (b : Box) (s : List (Int × Int)) (t : Bool) (v : List Int × Int × Box) : impl_Expunge_L1 b s t v = impl_Expunge_L1_B b s t (impl_Expunge_L1 b s t) v := by
  unfold impl_Expunge_L1; refine fixO_eq ?_ ?_ v
  · unfold impl_Expunge_L1_B; exact fun _ _ h _ => (le_ite (le_idx fun _ => (le_bind LeO.refl fun _ => (le_ite (le_req (le_req (h _))) (h _)))) LeO.refl)
  · unfold impl_Expunge_L1_B; exact fun _ _ h _ => (cp_ite (cp_idx fun _ => (cp_bind CpO.refl fun _ => (cp_ite (cp_req (cp_req (h _))) (h _)))) CpO.refl)
def impl_Expunge (b : Box) (s : List (Int × Int)) : Option (Box × (List (Int × Int))) :=
 (impl_BoxOk b).bind fun t =>
 if (!t) = true then
  (impl_copyBox b).bind fun y =>
  some (y, ([] : List (Int × Int)))
 else
 (impl_SetOk s).bind fun t1 =>
 if (!t1) = true then
  (impl_copyBox b).bind fun y1 =>
  some (y1, ([] : List (Int × Int)))
 else
 (impl_copyBox b).bind fun y2 =>
 impl_Expunge_L1 b s t (([] : List Int), (0 : Int), y2)
def slices_ContainsFunc_impl_Mail (s : List Mail) (f : (Mail → Bool → Prop)) : Option (Bool) :=
 (slices_IndexFunc_impl_Mail s f).bind fun n =>
 some (decide ((0 : Int) ≤ n))
def impl_MoveMails_c1 (m : Mail) (c : List (Int × Int)) : Option (Bool) :=
 (impl_SetHas c m.1).bind fun t =>
 some t
def impl_MoveMails (s : List Box × Int) (from0 : List UInt8) (set0 : List (Int × Int)) (to : List UInt8) : Option ((List Box × Int) × Int) :=
 (impl_StoreOk s).bind fun t =>
 if (!t) = true then
  (impl_copyStore s).bind fun y =>
  some (y, (4 : Int))
 else
 (impl_SetOk set0).bind fun t1 =>
 if (!t1) = true then
  (impl_copyStore s).bind fun y1 =>
  some (y1, (4 : Int))
 else
 if (decide (from0 = to)) = true then
  (impl_copyStore s).bind fun y2 =>
  some (y2, (4 : Int))
 else
 (impl_CopyMails s from0 set0 to).bind fun y3 =>
 if (!decide (y3.2 = (0 : Int))) = true then
  (impl_copyStore s).bind fun y4 =>
  some (y4, y3.2)
 else
 (impl_BoxAt y3.1 from0).bind fun y5 =>
 (impl_SetFlags y5.1 set0 (2 : Int) (8 : Int) (-1 : Int)).bind fun y6 =>
 (impl_Expunge y6.1 set0).bind fun y7 =>
 (slices_ContainsFunc_impl_Mail y7.1.2.2.2.2.1 (fun (e : Mail) t => impl_MoveMails_c1 e set0 = some t)).bind fun t2 =>
 if t2 = true then
  (impl_copyStore s).bind fun y8 =>
  some (y8, (3 : Int))
 else
 (impl_PutBox y3.1 y7.1).bind fun y9 =>
 some (y9, (0 : Int))
def spec_l09Named (code : List Int) : Option ((List Box × Int) × List UInt8) :=
 (spec_l01New code).bind fun y =>
 (spec_l09Name y).bind fun y1 =>
 (spec_l01Once y1.2 (12 : Int)).bind fun y2 =>
 if y2.1 = true then
  (spec_l09Any y2.2).bind fun y3 =>
  some (y3.1, ([] : List UInt8))
 else
 (spec_l09Any y2.2).bind fun y4 =>
 some (y4.1, y1.1)
def spec_DrawMakeBox (code : List Int) : Option ((List Box × Int) × List UInt8) :=
 (spec_l09Named code).bind fun y =>
 some y
def impl_BoxNew (name : List UInt8) (valid : Int) : Option (Box × Bool) :=
 (impl_BoxOk (name, valid, (1 : Int), (1 : Int), ([] : List Mail), ([] : List (Int × Int)), (0 : Int))).bind fun t =>
 if (!t) = true then
  some ((([] : List UInt8), (0 : Int), (0 : Int), (0 : Int), ([] : List Mail), ([] : List (Int × Int)), (0 : Int)), false)
 else
 some ((name, valid, (1 : Int), (1 : Int), ([] : List Mail), ([] : List (Int × Int)), (0 : Int)), true)
def impl_MakeBox_L1_B (name : List UInt8) (y : List Box × Int) (y1 : Box × Bool) (go : Int → Option ((List Box × Int) × Int)) (v : Int) : Option ((List Box × Int) × Int) :=
 if (decide (v < (y.1.length : Int))) = true then
  reqO (0 ≤ v ∧ v < (y.1.length : Int)) <|
  idxO y.1 v fun r =>
  if (Op.bytesLess r.1 name) = true then
   go (w64 (v + (1 : Int)))
  else
  (slices_Insert_impl_Box y.1 v [y1.1]).bind fun y2 =>
  some ((y2, (w64 (y.2 + (1 : Int)))), (0 : Int))
 else
 (slices_Insert_impl_Box y.1 v [y1.1]).bind fun y3 =>
 some ((y3, (w64 (y.2 + (1 : Int)))), (0 : Int))
def impl_MakeBox_L1 (name : List UInt8) (y : List Box × Int) (y1 : Box × Bool) : Int → Option ((List Box × Int) × Int) := fixO (impl_MakeBox_L1_B name y y1)
theorem impl_MakeBox_L1_eq (name : List UInt8) (y : List Box × Int) (y1 : Box × Bool) (v : Int) : impl_MakeBox_L1 name y y1 v = impl_MakeBox_L1_B name y y1 (impl_MakeBox_L1 name y y1) v := by
  unfold impl_MakeBox_L1; refine fixO_eq ?_ ?_ v
  · unfold impl_MakeBox_L1_B; exact fun _ _ h _ => (le_ite (le_req (le_idx fun _ => (le_ite (h _) LeO.refl))) LeO.refl)
  · unfold impl_MakeBox_L1_B; exact fun _ _ h _ => (cp_ite (cp_req (cp_idx fun _ => (cp_ite (h _) CpO.refl))) CpO.refl)
def impl_MakeBox (s : List Box × Int) (name : List UInt8) : Option ((List Box × Int) × Int) :=
 (impl_copyStore s).bind fun y =>
 (impl_StoreOk s).bind fun t =>
 if (!t) = true then
  some (y, (4 : Int))
 else
 (impl_BoxName name).bind fun t1 =>
 if (!t1) = true then
  some (y, (4 : Int))
 else
 (impl_boxAt s name).bind fun n =>
 if (decide ((0 : Int) ≤ n)) = true then
  some (y, (2 : Int))
 else
 if (decide ((s.1.length : Int) = (4 : Int))) = true then
  some (y, (3 : Int))
 else
 if (decide (s.2 = (9999 : Int))) = true then
  some (y, (3 : Int))
 else
 (impl_BoxNew name s.2).bind fun y1 =>
 impl_MakeBox_L1 name y y1 (0 : Int)
def impl_DropBox (s : List Box × Int) (name : List UInt8) : Option ((List Box × Int) × Int) :=
 (impl_copyStore s).bind fun y =>
 (impl_boxAt s name).bind fun n =>
 (impl_StoreOk s).bind fun t =>
 if (!t) = true then
  some (y, (4 : Int))
 else
 if (decide (name = ([105, 110, 98, 111, 120] : List UInt8))) = true then
  some (y, (4 : Int))
 else
 if (decide ((0 : Int) ≤ n)) = true then
  if (decide ((s.1.length : Int) = (1 : Int))) = true then
   some (y, (4 : Int))
  else
  if (decide (n < (0 : Int))) = true then
   some (y, (1 : Int))
  else
  (slices_Delete_impl_Box y.1 n (w64 (n + (1 : Int)))).bind fun y1 =>
  some ((y1, y.2), (0 : Int))
 else
 if (decide (n < (0 : Int))) = true then
  some (y, (1 : Int))
 else
 (slices_Delete_impl_Box y.1 n (w64 (n + (1 : Int)))).bind fun y2 =>
 some ((y2, y.2), (0 : Int))
def spec_DrawPutBox (code : List Int) : Option ((List Box × Int) × Box) :=
 (spec_l01New code).bind fun y =>
 (spec_l08Any y).bind fun y1 =>
 (spec_l09Any y1.2).bind fun y2 =>
 some (y2.1, y1.1)
def impl_StoreNew : Option (List Box × Int) :=
 (impl_BoxNew ([105, 110, 98, 111, 120] : List UInt8) (1 : Int)).bind fun y =>
 some ([y.1], (2 : Int))
def spec_l19SameBox_L2_B (a : Box) (b : Box) (go1 : Int → Option (Bool)) (v1 : Int) : Option (Bool) :=
 if (decide (v1 < (a.2.2.2.2.2.1.length : Int))) = true then
  idxO a.2.2.2.2.2.1 v1 fun r2 =>
  idxO b.2.2.2.2.2.1 v1 fun r3 =>
  if (!(decide (r2.1 = r3.1) && decide (r2.2 = r3.2))) = true then
   some false
  else
  go1 (w64 (v1 + (1 : Int)))
 else
 some true
def spec_l19SameBox_L2 (a : Box) (b : Box) : Int → Option (Bool) := fixO (spec_l19SameBox_L2_B a b)
theorem spec_l19SameBox_L2_eq (a : Box) (b : Box) (v1 : Int) : spec_l19SameBox_L2 a b v1 = spec_l19SameBox_L2_B a b (spec_l19SameBox_L2 a b) v1 := by
  unfold spec_l19SameBox_L2; refine fixO_eq ?_ ?_ v1
  · unfold spec_l19SameBox_L2_B; exact fun _ _ h _ => (le_ite (le_idx fun _ => (le_idx fun _ => (le_ite LeO.refl (h _)))) LeO.refl)
  · unfold spec_l19SameBox_L2_B; exact fun _ _ h _ => (cp_ite (cp_idx fun _ => (cp_idx fun _ => (cp_ite CpO.refl (h _)))) CpO.refl)
def spec_l19SameBox_L1_B (a : Box) (b : Box) (go : Int → Option (Bool)) (v : Int) : Option (Bool) :=
 if (decide (v < (a.2.2.2.2.1.length : Int))) = true then
  idxO a.2.2.2.2.1 v fun r =>
  idxO b.2.2.2.2.1 v fun r1 =>
  if (!(decide (r.1 = r1.1) && (decide (r.2.1 = r1.2.1) && (decide (r.2.2.1 = r1.2.2.1) && decide (r.2.2.2 = r1.2.2.2))))) = true then
   some false
  else
  go (w64 (v + (1 : Int)))
 else
 spec_l19SameBox_L2 a b (0 : Int)
def spec_l19SameBox_L1 (a : Box) (b : Box) : Int → Option (Bool) := fixO (spec_l19SameBox_L1_B a b)
theorem spec_l19SameBox_L1_eq (a : Box) (b : Box) (v : Int) : spec_l19SameBox_L1 a b v = spec_l19SameBox_L1_B a b (spec_l19SameBox_L1 a b) v := by
  unfold spec_l19SameBox_L1; refine fixO_eq ?_ ?_ v
  · unfold spec_l19SameBox_L1_B; exact fun _ _ h _ => (le_ite (le_idx fun _ => (le_idx fun _ => (le_ite LeO.refl (h _)))) LeO.refl)
  · unfold spec_l19SameBox_L1_B; exact fun _ _ h _ => (cp_ite (cp_idx fun _ => (cp_idx fun _ => (cp_ite CpO.refl (h _)))) CpO.refl)
def spec_l19SameBox (a : Box) (b : Box) : Option (Bool) :=
 if (!decide (a.1 = b.1)) = true then
  some false
 else
 if (!decide (a.2.1 = b.2.1)) = true then
  some false
 else
 if (!decide (a.2.2.1 = b.2.2.1)) = true then
  some false
 else
 if (!decide (a.2.2.2.1 = b.2.2.2.1)) = true then
  some false
 else
 if (!decide (a.2.2.2.2.2.2 = b.2.2.2.2.2.2)) = true then
  some false
 else
 if (!decide ((a.2.2.2.2.1.length : Int) = (b.2.2.2.2.1.length : Int))) = true then
  some false
 else
 if (!decide ((a.2.2.2.2.2.1.length : Int) = (b.2.2.2.2.2.1.length : Int))) = true then
  some false
 else
 spec_l19SameBox_L1 a b (0 : Int)
def spec_SameStore_L1_B (a : List Box × Int) (b : List Box × Int) (go : Int → Option (Bool)) (v : Int) : Option (Bool) :=
 if (decide (v < (a.1.length : Int))) = true then
  idxO a.1 v fun r =>
  idxO b.1 v fun r1 =>
  (spec_l19SameBox r r1).bind fun t =>
  if (!t) = true then
   some false
  else
  go (w64 (v + (1 : Int)))
 else
 some true
def spec_SameStore_L1 (a : List Box × Int) (b : List Box × Int) : Int → Option (Bool) := fixO (spec_SameStore_L1_B a b)
theorem spec_SameStore_L1_eq (a : List Box × Int) (b : List Box × Int) (v : Int) : spec_SameStore_L1 a b v = spec_SameStore_L1_B a b (spec_SameStore_L1 a b) v := by
  unfold spec_SameStore_L1; refine fixO_eq ?_ ?_ v
  · unfold spec_SameStore_L1_B; exact fun _ _ h _ => (le_ite (le_idx fun _ => (le_idx fun _ => (le_bind LeO.refl fun _ => (le_ite LeO.refl (h _))))) LeO.refl)
  · unfold spec_SameStore_L1_B; exact fun _ _ h _ => (cp_ite (cp_idx fun _ => (cp_idx fun _ => (cp_bind CpO.refl fun _ => (cp_ite CpO.refl (h _))))) CpO.refl)
def spec_SameStore (a : List Box × Int) (b : List Box × Int) : Option (Bool) :=
 if (!decide (a.2 = b.2)) = true then
  some false
 else
 if (!decide ((a.1.length : Int) = (b.1.length : Int))) = true then
  some false
 else
 spec_SameStore_L1 a b (0 : Int)
def laws_FnStoresTold (t : List Int) : Option (Bool) :=
 (laws_big t).bind fun t1 =>
 if t1 = true then
  some true
 else
 (spec_DrawCopyMails t).bind fun y =>
 (impl_CopyMails y.1 y.2.1 y.2.2.1 y.2.2.2).bind fun y1 =>
 (spec_CopyMails y.1 y.2.1 y.2.2.1 y.2.2.2).bind fun y2 =>
 (impl_MoveMails y.1 y.2.1 y.2.2.1 y.2.2.2).bind fun y3 =>
 (spec_MoveMails y.1 y.2.1 y.2.2.1 y.2.2.2).bind fun y4 =>
 (spec_DrawMakeBox t).bind fun y5 =>
 (impl_MakeBox y5.1 y5.2).bind fun y6 =>
 (spec_MakeBox y5.1 y5.2).bind fun y7 =>
 (impl_DropBox y5.1 y5.2).bind fun y8 =>
 (spec_DropBox y5.1 y5.2).bind fun y9 =>
 (spec_DrawPutBox t).bind fun y10 =>
 (impl_StoreNew).bind fun y11 =>
 if (decide (y1.2 = y2.2)) = true then
  (spec_SameStore y1.1 y2.1).bind fun t2 =>
  if t2 = true then
   if (decide (y3.2 = y4.2)) = true then
    (spec_SameStore y3.1 y4.1).bind fun t3 =>
    if t3 = true then
     if (decide (y6.2 = y7.2)) = true then
      (spec_SameStore y6.1 y7.1).bind fun t4 =>
      if t4 = true then
       if (decide (y8.2 = y9.2)) = true then
        (spec_SameStore y8.1 y9.1).bind fun t5 =>
        if t5 = true then
         (impl_PutBox y10.1 y10.2).bind fun y12 =>
         (spec_PutBox y10.1 y10.2).bind fun y13 =>
         (spec_SameStore y12 y13).bind fun t6 =>
         if t6 = true then
          (impl_StoreOk y.1).bind fun t7 =>
          (spec_StoreOk y.1).bind fun t8 =>
          if (decide (t7 = t8)) = true then
           (impl_StoreOk y11).bind fun t9 =>
           some t9
          else
          some false
         else
         some false
        else
        some false
       else
       some false
      else
      some false
     else
     some false
    else
    some false
   else
   some false
  else
  some false
 else
 some false
end Go.G
end
