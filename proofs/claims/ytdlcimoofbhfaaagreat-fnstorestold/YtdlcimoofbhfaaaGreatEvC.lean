/- A part of the proof. -/
import Derived.Test.YtdlcimoofbhfaaaGreatEvB
import Derived.Orders
set_option linter.all false
set_option linter.constructorNameAsVariable false
namespace Go.Ev
mutual
def idsD : D → List Nat
  | .own id | .osub id _ _ | .ptr id _ | .el id _ _ => [id]
  | .clo _ cs | .agg cs | .tup cs => idsL cs
  | _ => []
def idsL : List D → List Nat
  | [] => []
  | d :: r => idsD d ++ idsL r
end
def boxIdsOf (hp : Heap) : List Nat → List Nat
  | [] => []
  | id :: r => (match hp.find id with | some ⟨_, _, .box cs⟩ => idsL cs | _ => []) ++ boxIdsOf hp r
def foot (hp : Heap) (ds : List D) : List Nat := idsL ds ++ boxIdsOf hp (idsL ds)
def footOp (o : Op) (hp : Heap) (ds : List D) : List Nat := match o with
  | .call _ => foot hp ds
  | .buildSlice _ _ _ => foot hp ds
  | .move _ => []
  | .assign _ => []
  | .extract _ _ => []
  | _ => idsL ds
def Heap.only (hp : Heap) (ids : List Nat) : Heap := hp.filter fun h => ids.contains h.id
def Dl.ids (d : Dl) : List Nat := d.del ++ d.put.map (·.1)
def disjoint (a b : List Nat) : Bool := a.all fun x => !b.contains x
def indep1 (b : List Nat) (j : Nat) (f w : List Nat) : List (Nat × List Nat × List Nat) → Bool
  | [] => true
  | (i, f', w') :: r => ((b.getD j 0).testBit i || (disjoint w (f' ++ w') && disjoint w' (f ++ w))) && indep1 b j f w r
def indep (b : List Nat) : List (Nat × List Nat × List Nat) → Bool
  | [] => true
  | (j, f, w) :: r => indep1 b j f w r && indep b r
def befOf (acc : List Nat) : List Edge → Nat → Nat
  | [], s => s
  | e :: r, s => befOf acc r (if Region.binds .any e then s ||| 2 ^ e.on ||| acc.getD e.on 0 else s)
def befs : List Oper → List Nat → List Nat
  | [], acc => acc
  | o :: r, acc => befs r (acc ++ [befOf acc o.after.toList 0])
def backL : Nat → List Oper → Bool
  | _, [] => true
  | i, o :: r => (o.after.toList.all fun e => !Region.binds .any e || decide (e.on < i)) && backL (i + 1) r
def apartGo (ops : Array Oper) (bj : Nat) (j : Nat) (y : Oper) : Nat → List Oper → Bool
  | _, [] => true
  | i, x :: r => (decide (j ≤ i) || bj.testBit i || Oper.apart ops x y) && apartGo ops bj j y (i + 1) r
def apartL (ops : Array Oper) (b : List Nat) : Nat → List Oper → Bool
  | _, [] => true
  | j, y :: r => apartGo ops (b.getD j 0) j y 0 ops.toList && apartL ops b (j + 1) r
def drawOk (ops : Array Oper) (b : List Nat) : Bool := backL 0 ops.toList && apartL ops b 0 ops.toList
def idIn (B i b id : Nat) : Bool := decide (id < B) || ((id - B) / 8 == i || b.testBit ((id - B) / 8))
def idsOkD (B i b : Nat) (x : D × Dl) : Bool := (idsD x.1).all (idIn B i b) && x.2.put.all fun p => idIn B i b p.1 && (match p.2 with | .box ds => (idsL ds).all (idIn B i b) | .buf _ _ => true)
section
variable {R : Type} (c : Ctx)
def putLoc (σ : LSt) (d : Option Nat) (v : D) (dl : Dl) : LSt := match d with | some n => { σ with loc := (n, v) :: σ.loc, hp := σ.hp.app dl } | none => { σ with hp := σ.hp.app dl }
def setLoc (σ : LSt) (n : Nat) (v : D) : LSt := { σ with loc := (n, v) :: σ.loc }
def skLoc (σ : LSt) (d : Option Nat) : LSt := match d with | some n => setLoc σ n .sk | none => σ
def remk {α : Type} : List (Nat × α) → Nat → List (Nat × α)
  | [], _ => []
  | (k, y) :: r, n => if k = n then remk r n else (k, y) :: remk r n
def merge (keep : List Nat) : List (Nat × D) → List (Nat × D) → List (Nat × D)
  | [], tm => tm
  | (n, d) :: r, tm => if keep.contains n then setk (merge keep r tm) n d else remk (merge keep r tm) n
def idsOk (B : Nat) (x : D × Dl) : Bool := (idsD x.1).all (· < B) && x.2.put.all fun p => decide (p.1 < B) && (match p.2 with | .box ds => (idsL ds).all (· < B) | .buf _ _ => true)
def chk (B : Nat) (x : D × Dl) (t : Tr R) : Tr R := if idsOk B x then t else .fail
def finSt (n : Nat) (σ : LSt) : LSt := { loc := [], tm := merge c.keep σ.loc σ.tm, hp := σ.hp, nx := σ.nx + 8 * n }
def guardDst (ops : Array Oper) (j : Nat) : Option Nat := match ops[j]? with | some o => o.dst | none => none
def evOps (ops : Array Oper) : List Oper → Nat → LSt → (LSt → Tr R) → Tr R
  | [], n, σ, K => K (finSt c n σ)
  | o :: rest, i, σ, K =>
    match o.guard with
    | none => (evOp c σ.val σ.hp (σ.nx + 8 * i) o.op).bind fun x => chk (σ.nx + 8 * i + 8) x (evOps ops rest (i + 1) (putLoc σ o.dst x.1 x.2) K)
    | some (j, want) =>
      match guardDst ops j with
      | none => .fail
      | some t =>
        match σ.get t with
        | .sk => evOps ops rest (i + 1) (skLoc σ o.dst) K
        | .bl b =>
          if b = want then (evOp c σ.val σ.hp (σ.nx + 8 * i) o.op).bind fun x => chk (σ.nx + 8 * i + 8) x (evOps ops rest (i + 1) (putLoc σ o.dst x.1 x.2) K)
          else evOps ops rest (i + 1) (skLoc σ o.dst) K
        | .v .b b =>
          .ite b
            (if want then (evOp c (setLoc σ t (.bl true)).val σ.hp (σ.nx + 8 * i) o.op).bind fun x => chk (σ.nx + 8 * i + 8) x (evOps ops rest (i + 1) (putLoc (setLoc σ t (.bl true)) o.dst x.1 x.2) K)
             else evOps ops rest (i + 1) (skLoc (setLoc σ t (.bl true)) o.dst) K)
            (if want then evOps ops rest (i + 1) (skLoc (setLoc σ t (.bl false)) o.dst) K
             else (evOp c (setLoc σ t (.bl false)).val σ.hp (σ.nx + 8 * i) o.op).bind fun x => chk (σ.nx + 8 * i + 8) x (evOps ops rest (i + 1) (putLoc (setLoc σ t (.bl false)) o.dst x.1 x.2) K))
        | _ => .fail
def evOpD (σ : LSt) (nid : Nat) (o : Op) : OT := evOp c σ.val (σ.hp.only (footOp o σ.hp (o.operands.toList.map σ.val))) nid o
def evOpsD (ops : Array Oper) (b : List Nat) : List Oper → Nat → LSt → List (Nat × List Nat × List Nat) → (LSt → Tr R) → Tr R
  | [], n, σ, acc, K => if indep b acc then K (finSt c n σ) else .fail
  | o :: rest, i, σ, acc, K =>
    let go (σ : LSt) : Tr R := (evOpD c σ (σ.nx + 8 * i) o.op).bind fun x =>
      if idsOkD σ.nx i (b.getD i 0) x then evOpsD ops b rest (i + 1) (putLoc σ o.dst x.1 x.2) ((i, footOp o.op σ.hp (o.op.operands.toList.map σ.val), x.2.ids) :: acc) K else .fail
    let no (σ : LSt) : Tr R := evOpsD ops b rest (i + 1) (skLoc σ o.dst) acc K
    match o.guard with
    | none => go σ
    | some (j, want) =>
      match guardDst ops j with
      | none => .fail
      | some t =>
        match σ.get t with
        | .sk => no σ
        | .bl b => if b = want then go σ else no σ
        | .v .b b => .ite b (if want then go (setLoc σ t (.bl true)) else no (setLoc σ t (.bl true))) (if want then no (setLoc σ t (.bl false)) else go (setLoc σ t (.bl false)))
        | _ => .fail
inductive Ex where | normal | exit (n : Nat) | ret
def dsts : Code → List Nat
  | .region _ ops _ => ops.toList.filterMap (·.dst)
  | .seq a b => dsts a ++ dsts b
  | .cond _ a b => dsts a ++ dsts b
  | .block _ b | .loop b => dsts b
  | _ => []
def firstReg : Code → Option Nat
  | .region id _ _ => some id
  | .seq a b => match firstReg a with | some n => some n | none => firstReg b
  | .block _ b => firstReg b
  | _ => none
def plIn (p : Pl) (tm : List (Nat × D)) (hp : Heap) (dl : List Nat) : Option (p.sh.ty × List Nat × List Nat) :=
  match p with
  | .t s l => match look tm s with
    | some d => lfIn hp l d dl
    | none => none
  | .bx s ls => match look tm s with
    | some d => parIn hp (.box ls) d dl
    | none => none
def plsIn : (ps : List Pl) → List (Nat × D) → Heap → List Nat → Option (tyL (plShs ps) × List Nat × List Nat)
  | [], _, _, dl => some ((), dl, [])
  | [p], tm, hp, dl => plIn p tm hp dl
  | p :: q :: r, tm, hp, dl => match plIn p tm hp dl with
    | some (x, dl, i) => match plsIn (q :: r) tm hp dl with
      | some (y, dl, j) => some ((x, y), dl, i ++ j)
      | none => none
    | none => none
def plOut (p : Pl) (x : p.sh.ty) (n : Nat) (tm : List (Nat × D)) : List (Nat × D) × List (Nat × Ob) × Nat :=
  match p, x with
  | .t s l, x => match lfD l x n with | (d, o, n) => (setk tm s d, o, n)
  | .bx s ls, x => match lfsD ls x n with
    | (ds, o, n) => match look tm s with
      | some (.ptr id _) => (tm, (id, .box ds) :: o, n)
      | _ => (tm, o, n)
def plsOut : (ps : List Pl) → tyL (plShs ps) → Nat → List (Nat × D) → List (Nat × D) × List (Nat × Ob) × Nat
  | [], _, n, tm => (tm, [], n)
  | [p], x, n, tm => plOut p x n tm
  | p :: q :: r, x, n, tm => match plOut p x.1 n tm with
    | (tm, o, n) => match plsOut (q :: r) x.2 n tm with
      | (tm, o', n) => (tm, o ++ o', n)
def Heap.roAll (hp : Heap) : Heap := hp.map fun h => { h with ro := true }
def unRo (old : Heap) (hp : Heap) : Heap := hp.map fun h => match old.find h.id with | some o => { h with ro := o.ro } | none => h
def bxSame : List Pl → List (Nat × D) → List (Nat × D) → Bool
  | [], _, _ => true
  | .t _ _ :: r, tm, tm' => bxSame r tm tm'
  | .bx s _ :: r, tm, tm' => (match look tm s, look tm' s with | some (.ptr i _), some (.ptr j _) => i == j | _, _ => false) && bxSame r tm tm'
def plSlots : List Pl → List Nat
  | [] => []
  | .t s _ :: r => s :: plSlots r
  | .bx _ _ :: r => plSlots r
def plsOk (ds sl : List Nat) : List Pl → Bool
  | [] => true
  | .t _ _ :: r => plsOk ds sl r
  | .bx s _ :: r => !ds.contains s && !sl.contains s && plsOk ds sl r
def nodup : List Nat → Bool
  | [] => true
  | x :: r => !r.contains x && nodup r
def ev : Code → Nat → LSt → (Nat → Ex → LSt → Tr R) → Tr R
  | .skip, n, σ, K => K n .normal σ
  | .region _ ops false, n, σ, K => evOps c ops ops.toList 0 σ (K n .normal)
  | .region _ ops true, n, σ, K => if drawOk ops (befs ops.toList []) then evOpsD c ops (befs ops.toList []) ops.toList 0 σ [] (K n .normal) else .fail
  | .seq a b, n, σ, K => ev a n σ fun n e σ => match e with | .normal => ev b n σ K | e => K n e σ
  | .cond x a b, n, σ, K => match σ.val x with
    | .bl true => ev a n σ K
    | .bl false => ev b n σ K
    | .v .b t => .ite t (ev a n σ K) (ev b n σ K)
    | _ => .fail
  | .block id b, n, σ, K => ev b n σ fun n e σ => match e with | .exit k => if k = id then K n .normal σ else K n (.exit k) σ | e => K n e σ
  | .exit k, n, σ, K => K n (.exit k) σ
  | .ret, n, σ, K => K n .ret σ
  | .loop b, n, σ, K =>
    match (match firstReg b with | some n => look c.loops n | none => none) with
    | none => .fail
    | some ps =>
      match plsIn ps σ.tm σ.hp [] with
      | none => .fail
      | some (v, dl, sn) =>
        if plsOk (dsts b) (plSlots ps) ps && nodup (plSlots ps) && apart dl sn && σ.hp.wr sn then
        .loop (plShs ps) v fun v =>
          match plsOut ps v σ.nx (σ.tm.filter fun x => !(dsts b).contains x.1) with
          | (tm, o, nx) => chk nx (.tup (tm.map (·.2)), { put := o }) <| ev b (n + 1) { loc := [], tm, hp := (((σ.hp.dels dl).dels sn).roAll).puts o, nx } fun m e σ' => match e with
            | .normal => (match plsIn ps σ'.tm σ'.hp [] with | some (v', dl, sn) => if apart dl sn && σ'.hp.wr sn && bxSame ps σ.tm σ'.tm then .again n (plShs ps) v' else .fail | none => .fail)
            | e => K m e { σ' with hp := unRo σ.hp σ'.hp }
        else .fail
  | _, _, _, _ => .fail
def retD (σ : LSt) (K : List D → Tr R) : List ResultVar → Tr R
  | [] => K []
  | .tmp t :: r => retD σ (fun ds => K (σ.get t :: ds)) r
  | .cell a t :: r => (loadEv (c.Θ t) (σ.get a) σ.hp).bind fun x => retD σ (fun ds => K (x.1 :: ds)) r
def backBoxes (hp : Heap) : List Nat → Option (List D)
  | [] => some []
  | id :: r => match hp.find id, backBoxes hp r with
    | some ⟨_, _, .box cs⟩, some ds => some (.agg cs :: ds)
    | _, _ => none
def tmsOf : List D → Nat → List (Nat × D)
  | [], _ => []
  | d :: r, n => (n, d) :: tmsOf r (n + 1)
def evFun (fn : Func) (S : Sig) (x : S.In) : Tr S.Out :=
  match parsD S.ins x 0 with
  | (ds, o, n) => match fn.body with
    | none => .fail
    | some body => if (dsts body).all (· < fn.ntmps) && idsOk n (.tup ds, { put := o }) then ev c body 0 { loc := [], tm := tmsOf ds 0, hp := Heap.puts [] o, nx := n } fun _ e σ => match e with
      | .exit _ => .fail
      | _ => retD c σ (fun rs =>
          ofO (backBoxes σ.hp (boxIds S.ins ds)) fun bx =>
          ofO (parsIn σ.hp S.outs (rs ++ bx) (boxIds S.ins ds)) fun (y, dl, sn) => if apart dl sn then .ret y else .fail) fn.results.toList
      else .fail
end
end Go.Ev
