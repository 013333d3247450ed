/- A part of the proof. -/
import Derived.Test.YtdlcimoofbhfaaaGreatEvA
set_option linter.all false
set_option linter.constructorNameAsVariable false
namespace Go.Ev
abbrev OT := Tr (D × Dl)
def ofO {α R : Type} (o : Option α) (K : α → Tr R) : Tr R := match o with | some a => K a | none => .fail
def just (d : D) : OT := .ret (d, {})
def bound : Nat := 1073741824
def intCmp (op : BinOp) (a b : Int) : Option Bool :=
  match op with
  | .eql => some (decide (a = b))
  | .neq => some (!decide (a = b))
  | .lss => some (decide (a < b))
  | .leq => some (decide (a ≤ b))
  | .gtr => some (decide (b < a))
  | .geq => some (decide (b ≤ a))
  | _ => none
def intEv (op : BinOp) (k : IntKind) (a b : Int) : OT :=
  match op with
  | .add => just (.v (.i k) (k.wrap (a + b)))
  | .sub => just (.v (.i k) (k.wrap (a - b)))
  | .mul => just (.v (.i k) (k.wrap (a * b)))
  | .quo => .req (b ≠ 0) (just (.v (.i k) (k.wrap (a.tdiv b))))
  | .rem => .req (b ≠ 0) (just (.v (.i k) (a.tmod b)))
  | .and => just (.v (.i k) (k.wrap (BitVec.ofInt k.bits a &&& BitVec.ofInt k.bits b).toNat))
  | .or => just (.v (.i k) (k.wrap (BitVec.ofInt k.bits a ||| BitVec.ofInt k.bits b).toNat))
  | .xor => just (.v (.i k) (k.wrap (BitVec.ofInt k.bits a ^^^ BitVec.ofInt k.bits b).toNat))
  | .andNot => just (.v (.i k) (k.wrap (BitVec.ofInt k.bits a &&& ~~~(BitVec.ofInt k.bits b)).toNat))
  | op => match intCmp op a b with | some t => just (.v .b t) | none => .fail
def strEv (op : BinOp) (a b : List UInt8) : OT :=
  match op with
  | .add => .req (a.length + b.length ≤ 4611686018427387904) (just (.v .s (a ++ b)))
  | .eql => just (.v .b (decide (a = b)))
  | .neq => just (.v .b (!decide (a = b)))
  | .lss => just (.v .b (Op.bytesLess a b))
  | .leq => just (.v .b (Op.bytesLess a b || decide (a = b)))
  | .gtr => just (.v .b (!(Op.bytesLess a b || decide (a = b))))
  | .geq => just (.v .b (!(Op.bytesLess a b)))
  | _ => .fail
def asB : D → Option Bool
  | .bl t => some t
  | .v .b x => some x
  | _ => none
def eqCell : Sh → D → D → Option Bool
  | .i _, .v (.i k) x, .v (.i k') y => if k = k' then some (decide (x = y)) else none
  | .s, .v .s x, .v .s y => some (decide (x = y))
  | .b, a, b => match asB a, asB b with | some x, some y => some (decide (x = y)) | _, _ => none
  | _, _, _ => none
def eqCells : List Sh → List D → List D → Option Bool
  | [], [], [] => some true
  | [s], [a], [b] => eqCell s a b
  | s :: s' :: q, a :: c :: r, b :: d :: t => match eqCell s a b, eqCells (s' :: q) (c :: r) (d :: t) with | some x, some y => some (x && y) | _, _ => none
  | _, _, _ => none
def isConst : Operand → Bool
  | .const _ => true
  | _ => false
def isB (l : List Sh) : Bool := match l with | [.b] => true | _ => false
def isE (l : List Sh) : Bool := match l with | [.e] => true | _ => false
def boolEv (op : BinOp) (x y : Bool) : OT :=
  match op with
  | .eql => just (.v .b (decide (x = y)))
  | .neq => just (.v .b (!decide (x = y)))
  | _ => .fail
def binEv (op : BinOp) (ti : TI) (cy : Bool) (x y : D) : OT :=
  match x, y with
  | .v (.i k) a, .v (.i k') b => match op with
    | .shl => .req (0 ≤ b) (just (.v (.i k) (k.wrap (a * 2 ^ (min b.toNat k.bits)))))
    | .shr => .req (0 ≤ b) (just (.v (.i k) (a.fdiv (2 ^ (min b.toNat k.bits)))))
    | op => if k = k' then intEv op k a b else .fail
  | .v .s a, .v .s b => strEv op a b
  | .v .e a, .nile => if isE ti.cs && (cy && !ti.ag) then (match op with | .eql => just (.v .b a) | .neq => just (.v .b (!a)) | _ => .fail) else .fail
  | .agg a, .agg b => if ti.eq then (match op with
    | .eql => ofO (eqCells ti.cs a b) fun t => just (.v .b t)
    | .neq => ofO (eqCells ti.cs a b) fun t => just (.v .b (!t))
    | _ => .fail) else .fail
  | a, b => if isB ti.cs && !ti.ag then ofO (asB a) fun a => ofO (asB b) fun b => boolEv op a b else .fail
def byteAt (s : List UInt8) (n : Int) : Int := (s.getD n.toNat 0).toNat
def strBytes (s : List UInt8) : List Int := s.map fun b => (b.toNat : Int)
def setc : (rs : List Sh) → Nat → D → Option (tyL rs → tyL rs)
  | [a], 0, .v sh x => (castR a sh x).map fun y _ => y
  | [.b], 0, .bl t => some fun _ => t
  | a :: _ :: _, 0, .v sh x => (castR a sh x).map fun y r => (y, r.2)
  | .b :: _ :: _, 0, .bl t => some fun r => (t, r.2)
  | _ :: c :: r, n + 1, d => (setc (c :: r) n d).map fun f y => (y.1, f y.2)
  | _, _, _ => none
def rowsOf (rs : List Sh) (hp : Heap) : List D → Option (List (tyL rs) × List Nat)
  | [] => some ([], [])
  | d :: r => match toRL hp rs (leaves d) with
    | some (x, i) => match rowsOf rs hp r with
      | some (y, j) => some (x :: y, i ++ j)
      | none => none
    | none => none
def partsSeq : Nat → List (Nat × Operand) → Bool
  | _, [] => true
  | n, (i, _) :: r => i == n && partsSeq (n + 1) r
section
variable (c : Ctx)
def okB (g : Nat) (S : Sig) (X : S.In) (t : Bool) : Prop :=
  match S, X with
  | ⟨ins, [.one (.r .b)]⟩, X => c.okp g ⟨ins, [.one (.r .b)]⟩ X t
  | _, _ => False
def cloRel (g : Nat) (S : Sig) (hp : Heap) (caps : List D) (ag : Bool) (ps : List Sh) : tyL ps → Bool → Prop := fun x t =>
  match unleaf ag (cellsD ps x) with
  | some d => match parsIn hp S.ins (d :: caps) [] with
    | some (X, [], _) => okB c g S X t
    | _ => False
  | none => False
def cloRel2 (g : Nat) (S : Sig) (hp : Heap) (caps : List D) (ps : List Sh) : tyL ps → tyL ps → Bool → Prop := fun x y t =>
  match parsIn hp S.ins (.agg (cellsD ps x) :: .agg (cellsD ps y) :: caps) [] with
  | some (X, [], _) => okB c g S X t
  | _ => False
def cloD (hp : Heap) (p : Par) (d : D) : D :=
  match p, d with
  | .one (.r (.fn ag ps)), .clo g caps => match c.sigs g with | some S => .v (.fn ag ps) (cloRel c g S hp caps ag ps) | none => .un
  | .one (.r (.fn2 ps)), .clo g caps => match c.sigs g with | some S => .v (.fn2 ps) (cloRel2 c g S hp caps ps) | none => .un
  | _, d => d
def cloDs (hp : Heap) : List Par → List D → List D
  | p :: r, d :: ds => cloD c hp p d :: cloDs hp r ds
  | _, ds => ds
def snC (hp : Heap) (k : Nat) (g : Nat) (caps : List D) : List Nat :=
  match c.sigs g with
  | some S => match parsIn hp (S.ins.drop k) caps [] with
    | some (_, [], sn) => sn
    | _ => []
  | none => []
def cloIds (hp : Heap) (p : Par) (d : D) : List Nat :=
  match p, d with
  | .one (.r (.fn _ _)), .clo g caps => snC c hp 1 g caps
  | .one (.r (.fn2 _)), .clo g caps => snC c hp 2 g caps
  | _, _ => []
def cloIdsL (hp : Heap) : List Par → List D → List Nat
  | p :: r, d :: ds => cloIds c hp p d ++ cloIdsL hp r ds
  | _, _ => []
def tupD : List D → D
  | [d] => d
  | ds => .tup ds
def callEv (g : Nat) (ds : List D) (hp : Heap) (nid : Nat) : OT :=
  ofO (c.sigs g) fun S =>
  ofO (parsIn hp S.ins (cloDs c hp S.ins ds) []) fun (X, dl, sn) =>
  let sn := sn ++ cloIdsL c hp S.ins ds
  let fz := if S.outs.any Par.mem then sn else []
  if apart dl sn && hp.wr fz && (boxIds S.ins ds).length ≤ S.outs.length then
    .call g S X fun Y =>
      match outsD (S.outs.length - (boxIds S.ins ds).length) S.outs Y (boxIds S.ins ds) nid with
      | some (rs, o, n) => if n ≤ nid + 8 then .ret (tupD rs, { del := dl ++ fz, put := o }) else .fail
      | none => .fail
  else .fail
def callvEv (sh : Sh) (x : sh.ty) (ds : List D) (hp : Heap) : OT :=
  match sh, x, ds with
  | .fn ag ps, p, [d] => match ag, d with
    | true, .agg cs => ofO (toRL hp ps cs) fun (y, _) => .callv (p y) fun t => just (.v .b t)
    | false, d => ofO (toRL hp ps [d]) fun (y, _) => .callv (p y) fun t => just (.v .b t)
    | _, _ => .fail
  | .fn2 ps, p, [.agg d, .agg e] => ofO (toRL hp ps d) fun (y, _) => ofO (toRL hp ps e) fun (z, _) => .callv (p y z) fun t => just (.v .b t)
  | _, _, _ => .fail
def loadEv (ti : TI) (d : D) (hp : Heap) : OT :=
  match d with
  | .ptr id off => match hp.find id with
    | some ⟨_, _, .box cs⟩ => if off + ti.cs.length ≤ cs.length then ofO (unleaf ti.ag (dtk ti.cs.length (ddr off cs))) just else .fail
    | _ => .fail
  | .v (.rf rs) x => if ti.cs.length ≤ rs.length then ofO (unleaf ti.ag (dtk ti.cs.length (cellsD rs x))) just else .fail
  | .rp rs x off => if off + ti.cs.length ≤ rs.length then ofO (unleaf ti.ag (dtk ti.cs.length (ddr off (cellsD rs x)))) just else .fail
  | .el id row off => match hp.find id with
    | some ⟨_, _, .buf rs l⟩ => if off + ti.cs.length ≤ rs.length then .idx l row fun r => ofO (unleaf ti.ag (dtk ti.cs.length (ddr off (cellsD rs r)))) just else .fail
    | _ => .fail
  | _ => .fail
def solid : D → Bool
  | .un | .sk | .agg _ | .tup _ => false
  | _ => true
def storeEv (ti : TI) (d : D) (y : D) (hp : Heap) : OT :=
  if (leaves y).length = ti.cs.length ∧ 0 < ti.cs.length ∧ (leaves y).all solid then
  match d with
  | .ptr id off => match hp.find id with
    | some ⟨_, false, .box cs⟩ => if off + ti.cs.length ≤ cs.length then .ret (.un, { put := [(id, .box (dtk off cs ++ leaves y ++ ddr (off + ti.cs.length) cs))] }) else .fail
    | _ => .fail
  | .el id row off => match hp.find id with
    | some ⟨_, false, .buf rs l⟩ =>
      if off = 0 ∧ ti.cs.length = rs.length then
        ofO (toRL hp rs (leaves y)) fun (r, sn) => if hp.wr sn && !sn.contains id then .ret (.un, { del := sn, put := [(id, .buf rs (l.set row.toNat r))] }) else .fail
      else match leaves y with
        | [y] => ofO (setc rs off y) fun f => .ret (.un, { put := [(id, .buf rs (l.modify row.toNat f))] })
        | _ => .fail
    | _ => .fail
  | _ => .fail
  else .fail
def appendEv (rs : List Sh) (x : D) (y : D) (hp : Heap) (nid : Nat) : OT :=
  match (match rs, y with | [.i .u8], .v .s s => some (strBytes s, []) | rs, y => toR hp (.sl rs) y : Option (List (tyL rs) × List Nat)) with
  | none => .fail
  | some (m, sn) =>
    match x with
    | .nil => .req (m.length ≤ bound) (.ret (.own nid, { put := [(nid, .buf rs m)] }))
    | .own id => match hp.find id with
      | some ⟨_, false, .buf rs' l⟩ =>
        match eqL? rs rs' with
        | some ⟨h⟩ => if sn.contains id then .fail else .req (l.length + m.length ≤ bound) (.ret (.own nid, { del := [id], put := [(nid, .buf rs' (l ++ h ▸ m))] }))
        | none => .fail
      | _ => .fail
    | .osub id lo hi => match hp.find id with
      | some ⟨_, false, .buf rs' l⟩ =>
        match eqL? rs rs' with
        | some ⟨h⟩ => .req (hi + m.length ≤ l.length) (.ret (.osub id lo (hi + m.length), { put := [(id, .buf rs' (l.take hi ++ (h ▸ m) ++ l.drop (hi + m.length)))] }))
        | none => .fail
      | _ => .fail
    | _ => .fail
def cutEv (lo hi : Option Int) (n : Int) (K : Int → Int → OT) : OT :=
  match lo, hi with
  | none, none => K 0 n
  | some L, none => .req (0 ≤ L ∧ L ≤ n) (K L n)
  | none, some H => .req (0 ≤ H ∧ H ≤ n) (K 0 H)
  | some L, some H => .req (0 ≤ L ∧ L ≤ H ∧ H ≤ n) (K L H)
def cutL {α : Type} (lo hi : Option Int) (l : List α) : List α :=
  match lo, hi with
  | none, none => l
  | some L, none => l.drop L.toNat
  | none, some H => l.take H.toNat
  | some L, some H => (l.take H.toNat).drop L.toNat
def sliceEv (one : List Sh) (d : D) (lo hi : Option Int) (hp : Heap) : OT :=
  match one, d with
  | [.s], .v .s s => cutEv lo hi s.length fun _ _ => just (.v .s (cutL lo hi s))
  | [.sl rs'], .v (.sl rs) l => if rs'.length = rs.length then cutEv lo hi l.length fun _ _ => just (.v (.sl rs) (cutL lo hi l)) else .fail
  | [.sl rs'], .own id => match hp.find id with
    | some ⟨_, _, .buf rs l⟩ => if rs'.length = rs.length then cutEv lo hi l.length fun L H => just (.osub id L.toNat H.toNat) else .fail
    | _ => .fail
  | _, _ => .fail
def buildCells (ti : TI) (val : Operand → D) : List (Nat × Operand) → List D → Option (List D)
  | [], cs => some cs
  | (i, x) :: r, cs => match ti.fs[i]? with
    | some (off, n, _) => if (leaves (val x)).length = n ∧ off + n ≤ cs.length ∧ (leaves (val x)).all solid then buildCells ti val r (dtk off cs ++ leaves (val x) ++ ddr (off + n) cs) else none
    | none => none
def asI : D → Option Int
  | .v (.i _) n => some n
  | _ => none
def oI (val : Operand → D) : Option Operand → Option (Option Int)
  | none => some none
  | some x => (asI (val x)).map some
def elemSh (ti : TI) : Option (List Sh) := match ti.one with | [.sl rs] => some rs | _ => none
def as64 : D → Option Int
  | .v (.i .i64) n => some n
  | _ => none
def as64s (val : Operand → D) : List Operand → Option (List Int)
  | [] => some []
  | x :: r => match as64 (val x), as64s val r with | some n, some l => some (n :: l) | _, _ => none
def minI : List Int → Option Int
  | [] => none
  | x :: r => some (r.foldl (fun x y => if y < x then y else x) x)
def maxI : List Int → Option Int
  | [] => none
  | x :: r => some (r.foldl (fun x y => if x < y then y else x) x)
def isSeq (l : List Sh) : Bool := match l with | [.s] | [.sl _] => true | _ => false
def lenEv (one : List Sh) (d : D) (hp : Heap) : OT :=
  match one, d with
  | [.s], .v .s s => just (.v (.i .i64) s.length)
  | [.sl _], .nil => just (.v (.i .i64) (0 : Int))
  | [.sl _], .v (.sl _) l => just (.v (.i .i64) l.length)
  | [.sl _], .own id => match hp.find id with
    | some ⟨_, _, .buf _ l⟩ => just (.v (.i .i64) l.length)
    | _ => .fail
  | [.sl _], .osub id lo hi => match hp.find id with
    | some ⟨_, _, .buf _ _⟩ => just (.v (.i .i64) ((hi - lo : Nat) : Int))
    | _ => .fail
  | _, _ => .fail
def clearEv (rs' : List Sh) (d : D) (hp : Heap) : OT :=
  match d with
  | .osub id lo hi => match hp.find id with
    | some ⟨_, false, .buf rs l⟩ => match eqL? rs' rs with
      | some _ => ofO (zeroT rs) fun z =>
        .ret (.un, { put := [(id, .buf rs (l.take lo ++ List.replicate (hi - lo) z ++ l.drop hi))] })
      | none => .fail
    | _ => .fail
  | _ => .fail
def convEv (s t : List Sh) (d : D) (hp : Heap) (nid : Nat) : OT :=
  match s, t, d with
  | [.i _], [.i k'], .v (.i _) n => just (.v (.i k') (k'.wrap n))
  | [.s], [.s], .v .s l => just (.v .s l)
  | [.s], [.sl [.i .u8]], .v .s l => .req (l.length ≤ bound) (.ret (.own nid, { put := [(nid, .buf [.i .u8] (strBytes l))] }))
  | [.sl [.i .u8]], [.s], d => ofO (toR hp (.sl [.i .u8]) d) fun (l, _) => just (.v .s (l.map fun (n : Int) => UInt8.ofNat n.toNat))
  | _, _, _ => .fail
def indexEv (one : List Sh) (d : D) (n : Int) (hp : Heap) : OT :=
  match one, d with
  | [.sl rs'], .v (.sl rs) l => if rs'.length = rs.length then .idx l n fun r => just (.rp rs r 0) else .fail
  | [.sl rs'], .own id => match hp.find id with
    | some ⟨_, _, .buf rs l⟩ => if rs'.length = rs.length then .req (0 ≤ n ∧ n < (l.length : Int)) (just (.el id n 0)) else .fail
    | _ => .fail
  | [.sl rs'], .osub id lo hi => match hp.find id with
    | some ⟨_, _, .buf rs _⟩ => if rs'.length = rs.length then .req (0 ≤ n ∧ n < ((hi - lo : Nat) : Int)) (just (.el id (lo + n) 0)) else .fail
    | _ => .fail
  | _, _ => .fail
def fieldEv (d : D) (fo : Nat) (hp : Heap) : OT :=
  match d with
  | .ptr id off => (match hp.find id with | some ⟨_, _, .box _⟩ => just (.ptr id (off + fo)) | _ => .fail)
  | .el id r off => (match hp.find id with | some ⟨_, _, .buf _ _⟩ => just (.el id r (off + fo)) | _ => .fail)
  | .rp rs r off => just (.rp rs r (off + fo))
  | .v (.rf rs) x => just (.rp rs x fo)
  | _ => .fail
def evOp (val : Operand → D) (hp : Heap) (nid : Nat) (o : Op) : OT :=
  match o with
  | .move x | .assign x => just (val x)
  | .pick t a b => match val t with
    | .bl true => just (val a)
    | .bl false => just (val b)
    | .v .b t => .ite t (just (val a)) (just (val b))
    | _ => .fail
  | .alloc e => if (c.Θ e).cs.length = 0 then .fail else .ret (.ptr nid 0, { put := [(nid, .box ((c.Θ e).cs.map zeroD))] })
  | .box e x => if (leaves (val x)).length = (c.Θ e).cs.length ∧ 0 < (c.Θ e).cs.length ∧ (leaves (val x)).all solid then .ret (.ptr nid 0, { put := [(nid, .box (leaves (val x)))] }) else .fail
  | .build t ps => if (c.Θ t).ag then ofO (buildCells (c.Θ t) val ps.toList ((c.Θ t).cs.map zeroD)) fun cs => just (.agg cs) else .fail
  | .buildSlice t len ps => ofO (elemSh (c.Θ t)) fun rs =>
    if partsSeq 0 ps.toList && (ps.size == len && decide (len * rs.length ≤ 16777216)) then
      ofO (rowsOf rs hp (ps.toList.map fun p => val p.2)) fun (l, sn) =>
        if hp.wr sn then .ret (.own nid, { del := sn, put := [(nid, .buf rs l)] }) else .fail
    else .fail
  | .load t a => loadEv (c.Θ t) (val a) hp
  | .store t a x => storeEv (c.Θ t) (val a) (val x) hp
  | .nilCheck x => match val x with
    | .ptr i o => (match hp.find i with | some ⟨_, _, .box _⟩ => just (.ptr i o) | _ => .fail)
    | .el i r o => (match hp.find i with | some ⟨_, _, .buf _ _⟩ => just (.el i r o) | _ => .fail)
    | .rp a b d => just (.rp a b d)
    | .v (.rf cs) x => just (.v (.rf cs) x)
    | _ => .fail
  | .binOp op t x y _ => binEv op (c.Θ t) (isConst y) (val x) (val y)
  | .unOp .not _ x => match val x with
    | .bl t => just (.bl (!t))
    | .v .b t => just (.v .b (!t))
    | _ => .fail
  | .unOp .neg _ x => match val x with
    | .v (.i k) n => just (.v (.i k) (k.wrap (0 - n)))
    | _ => .fail
  | .convert s t x => convEv (c.Θ s).one (c.Θ t).one (val x) hp nid
  | .makeFunc (.func g) f cs => if f.size = 0 then just (.clo g (cs.toList.map val)) else .fail
  | .makeSlice t l m => ofO (elemSh (c.Θ t)) fun rs => ofO (asI (val l)) fun n => ofO (asI (val m)) fun m' => ofO (zeroT rs) fun z =>
    .req (0 ≤ n ∧ n = m' ∧ n ≤ (bound : Int)) (.ret (.own nid, { put := [(nid, .buf rs (List.replicate n.toNat z))] }))
  | .slice t x lo hi none => ofO (oI val lo) fun lo => ofO (oI val hi) fun hi => sliceEv (c.Θ t).one (val x) lo hi hp
  | .fieldAddr s x f => ofO (c.Θ s).fs[f]? fun (fo, _, _) => fieldEv (val x) fo hp
  | .field s x f => ofO (c.Θ s).fs[f]? fun (fo, n, ag) => match val x with
    | .agg cs => if fo + n ≤ cs.length then ofO (unleaf ag (dtk n (ddr fo cs))) just else .fail
    | _ => .fail
  | .indexAddr t x i => ofO (asI (val i)) fun n => indexEv (c.Θ t).one (val x) n hp
  | .index t x i => ofO (asI (val i)) fun n => match (c.Θ t).one, val x with
    | [.s], .v .s s => .req (0 ≤ n ∧ n < (s.length : Int)) (just (.v (.i .u8) (byteAt s n)))
    | _, _ => .fail
  | .extract t n => match val t with
    | .tup vs => ofO vs[n]? just
    | _ => .fail
  | .call cl =>
    match cl.callee with
    | .builtin .len => match cl.args.toList, cl.argTypes.toList with
      | [x], [t] => lenEv (c.Θ t).one (val x) hp
      | _, _ => .fail
    | .builtin .append => match cl.args.toList, cl.argTypes.toList with
      | [x, y], [t, u] => ofO (elemSh (c.Θ t)) fun rs => if isSeq (c.Θ u).one then appendEv rs (val x) (val y) hp nid else .fail
      | _, _ => .fail
    | .builtin .clear => match cl.args.toList, cl.argTypes.toList with
      | [x], [t] => ofO (elemSh (c.Θ t)) fun rs => clearEv rs (val x) hp
      | _, _ => .fail
    | .builtin .min => ofO (as64s val cl.args.toList) fun l => ofO (minI l) fun n => just (.v (.i .i64) n)
    | .builtin .max => ofO (as64s val cl.args.toList) fun l => ofO (maxI l) fun n => just (.v (.i .i64) n)
    | .value f => match val f with
      | .clo g caps => callEv c g (cl.args.toList.map val ++ caps) hp nid
      | .v sh x => callvEv sh x (cl.args.toList.map val) hp
      | _ => .fail
    | _ => .fail
  | _ => .fail
end
end Go.Ev
