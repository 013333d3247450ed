/- A part of the proof. -/
import GoSem.Core.Code
import GoSem.Op.String
set_option linter.all false
set_option linter.constructorNameAsVariable false
namespace Go.Ev
inductive Sh where
  | b | i (k : IntKind) | s | e
  | sl (rs : List Sh) | rf (cs : List Sh) | fn (ag : Bool) (ps : List Sh) | fn2 (ps : List Sh)
@[reducible] def consTy (A : Type) (r : List Sh) (B : Type) : Type := match r with | [] => A | _ :: _ => A × B
mutual
@[reducible] def Sh.ty : Sh → Type
  | .b => Bool
  | .i _ => Int
  | .s => List UInt8
  | .e => Bool
  | .sl rs => List (tyL rs)
  | .rf cs => tyL cs
  | .fn _ ps => tyL ps → Bool → Prop
  | .fn2 ps => tyL ps → tyL ps → Bool → Prop
@[reducible] def tyL : List Sh → Type
  | [] => Unit
  | a :: r => consTy a.ty r (tyL r)
end
mutual
def Sh.eq? : (a b : Sh) → Option (PLift (a = b))
  | .b, .b => some ⟨rfl⟩
  | .i k, .i k' => if h : k = k' then some ⟨h ▸ rfl⟩ else none
  | .s, .s => some ⟨rfl⟩
  | .e, .e => some ⟨rfl⟩
  | .sl r, .sl r' => match eqL? r r' with | some ⟨h⟩ => some ⟨h ▸ rfl⟩ | none => none
  | .rf r, .rf r' => match eqL? r r' with | some ⟨h⟩ => some ⟨h ▸ rfl⟩ | none => none
  | .fn a r, .fn a' r' => if ha : a = a' then (match eqL? r r' with | some ⟨h⟩ => some ⟨ha ▸ h ▸ rfl⟩ | none => none) else none
  | .fn2 r, .fn2 r' => match eqL? r r' with | some ⟨h⟩ => some ⟨h ▸ rfl⟩ | none => none
  | _, _ => none
def eqL? : (a b : List Sh) → Option (PLift (a = b))
  | [], [] => some ⟨rfl⟩
  | a :: r, a' :: r' => match Sh.eq? a a', eqL? r r' with | some ⟨h⟩, some ⟨h'⟩ => some ⟨h ▸ h' ▸ rfl⟩ | _, _ => none
  | _, _ => none
end
inductive Lf where
  | r (sh : Sh) | o (rs : List Sh)
@[reducible] def Lf.sh : Lf → Sh
  | .r sh => sh
  | .o rs => .sl rs
@[reducible] def lfShs (ls : List Lf) : List Sh := ls.map Lf.sh
inductive Par where
  | one (l : Lf) | agg (ls : List Lf) | box (ls : List Lf)
@[reducible] def Par.ty : Par → Type
  | .one l => l.sh.ty
  | .agg ls => tyL (lfShs ls)
  | .box ls => tyL (lfShs ls)
@[reducible] def parTy : List Par → Type
  | [] => Unit
  | [a] => a.ty
  | a :: b :: r => a.ty × parTy (b :: r)
structure Sig where
  ins : List Par
  outs : List Par
@[reducible] def Sig.In (S : Sig) : Type := parTy S.ins
@[reducible] def Sig.Out (S : Sig) : Type := parTy S.outs
inductive Tr (R : Type) : Type where
  | fail
  | ret (y : R)
  | ite (b : Bool) (x y : Tr R)
  | call (f : Nat) (S : Sig) (x : S.In) (k : S.Out → Tr R)
  | callv (p : Bool → Prop) (k : Bool → Tr R)
  | idx {rs : List Sh} (l : List (tyL rs)) (i : Int) (k : tyL rs → Tr R)
  | req (p : Prop) (k : Tr R)
  | loop (S : List Sh) (v : tyL S) (b : tyL S → Tr R)
  | again (n : Nat) (S : List Sh) (v : tyL S)
def Tr.bind {A R : Type} : Tr A → (A → Tr R) → Tr R
  | .fail, _ => .fail
  | .ret y, K => K y
  | .ite b x y, K => .ite b (x.bind K) (y.bind K)
  | .call f S x k, K => .call f S x fun y => (k y).bind K
  | .callv p k, K => .callv p fun t => (k t).bind K
  | .idx l i k, K => .idx l i fun r => (k r).bind K
  | .req p k, K => .req p (k.bind K)
  | .loop _ _ _, _ => .fail
  | .again _ _ _, _ => .fail
inductive D where
  | v (sh : Sh) (x : sh.ty) | bl (t : Bool) | nil | nile | un | sk
  | own (id : Nat) | osub (id lo hi : Nat)
  | ptr (id off : Nat) | el (id : Nat) (row : Int) (off : Nat) | rp (rs : List Sh) (x : tyL rs) (off : Nat)
  | clo (g : Nat) (caps : List D) | agg (cs : List D) | tup (vs : List D)
inductive Ob where
  | box (cs : List D) | buf (rs : List Sh) (l : List (tyL rs))
structure HO where
  id : Nat
  ro : Bool
  ob : Ob
abbrev Heap := List HO
structure Dl where
  del : List Nat := []
  put : List (Nat × Ob) := []
structure TI where
  cs : List Sh := []      
  ag : Bool := false
  fs : List (Nat × Nat × Bool) := []     
  eq : Bool := false      
def TI.one (ti : TI) : List Sh := if ti.ag then [] else ti.cs
inductive Pl where
  | t (slot : Nat) (l : Lf) | bx (slot : Nat) (ls : List Lf)
@[reducible] def Pl.sh : Pl → Sh
  | .t _ l => l.sh
  | .bx _ ls => .rf (lfShs ls)
@[reducible] def plShs (ps : List Pl) : List Sh := ps.map Pl.sh
structure FnI where
  S : Sig
  F : S.In → Option S.Out
structure Ctx where
  Θ : Nat → TI
  keep : List Nat
  loops : List (Nat × List Pl)
  tab : List (Nat × FnI)
def eqLf? : (a b : Lf) → Option (PLift (a = b))
  | .r s, .r s' => match Sh.eq? s s' with | some ⟨h⟩ => some ⟨h ▸ rfl⟩ | none => none
  | .o r, .o r' => match eqL? r r' with | some ⟨h⟩ => some ⟨h ▸ rfl⟩ | none => none
  | _, _ => none
def eqLfs? : (a b : List Lf) → Option (PLift (a = b))
  | [], [] => some ⟨rfl⟩
  | a :: r, a' :: r' => match eqLf? a a', eqLfs? r r' with | some ⟨h⟩, some ⟨h'⟩ => some ⟨h ▸ h' ▸ rfl⟩ | _, _ => none
  | _, _ => none
def eqPar? : (a b : Par) → Option (PLift (a = b))
  | .one l, .one l' => match eqLf? l l' with | some ⟨h⟩ => some ⟨h ▸ rfl⟩ | none => none
  | .agg l, .agg l' => match eqLfs? l l' with | some ⟨h⟩ => some ⟨h ▸ rfl⟩ | none => none
  | .box l, .box l' => match eqLfs? l l' with | some ⟨h⟩ => some ⟨h ▸ rfl⟩ | none => none
  | _, _ => none
def eqPars? : (a b : List Par) → Option (PLift (a = b))
  | [], [] => some ⟨rfl⟩
  | a :: r, a' :: r' => match eqPar? a a', eqPars? r r' with | some ⟨h⟩, some ⟨h'⟩ => some ⟨h ▸ h' ▸ rfl⟩ | _, _ => none
  | _, _ => none
def eqSig? : (a b : Sig) → Option (PLift (a = b))
  | ⟨i, o⟩, ⟨i', o'⟩ => match eqPars? i i', eqPars? o o' with | some ⟨h⟩, some ⟨h'⟩ => some ⟨h ▸ h' ▸ rfl⟩ | _, _ => none
structure LSt where
  loc : List (Nat × D)
  tm : List (Nat × D)
  hp : Heap
  nx : Nat
def look {α : Type} : List (Nat × α) → Nat → Option α
  | [], _ => none
  | (k, x) :: r, n => if k = n then some x else look r n
def Ctx.sigs (c : Ctx) (g : Nat) : Option Sig := match look c.tab g with | some e => some e.S | none => none
def Ctx.callF (c : Ctx) (g : Nat) (S : Sig) (x : S.In) : Option S.Out :=
  match look c.tab g with
  | some e => match eqSig? e.S S with
    | some ⟨h⟩ => h ▸ e.F (h ▸ x)
    | none => none
  | none => none
def Ctx.okp (c : Ctx) (f : Nat) (S : Sig) (x : S.In) (y : S.Out) : Prop := c.callF f S x = some y
def setk {α : Type} : List (Nat × α) → Nat → α → List (Nat × α)
  | [], n, x => [(n, x)]
  | (k, y) :: r, n, x => if k = n then (k, x) :: r else (k, y) :: setk r n x
def Heap.find : Heap → Nat → Option HO
  | [], _ => none
  | h :: r, n => if h.id = n then some h else Heap.find r n
def Heap.put : Heap → Nat → Ob → Heap
  | [], n, o => [⟨n, false, o⟩]
  | h :: r, n, o => if h.id = n then ⟨n, h.ro, o⟩ :: r else h :: Heap.put r n o
def Heap.del : Heap → Nat → Heap
  | [], _ => []
  | h :: r, n => if h.id = n then Heap.del r n else h :: Heap.del r n
def Heap.dels : Heap → List Nat → Heap
  | hp, [] => hp
  | hp, n :: r => Heap.dels (hp.del n) r
def Heap.puts : Heap → List (Nat × Ob) → Heap
  | hp, [] => hp
  | hp, (n, o) :: r => (Heap.puts hp r).put n o
def Heap.app (hp : Heap) (d : Dl) : Heap := (hp.dels d.del).puts d.put
def Heap.wr (hp : Heap) : List Nat → Bool
  | [] => true
  | n :: r => (match hp.find n with | some h => !h.ro | none => false) && Heap.wr hp r
def LSt.get (σ : LSt) (n : Nat) : D := match look σ.loc n with | some d => d | none => match look σ.tm n with | some d => d | none => .un
def ofVal : Value → D
  | .bool t => .bl t
  | .int k n => .v (.i k) n
  | .string s => .v .s s.data.toList
  | .slice none 0 0 => .nil
  | .nilIface => .nile
  | _ => .un
def LSt.val (σ : LSt) : Operand → D
  | .tmp n => σ.get n
  | .const x => ofVal x
  | .func f => .clo f []
  | .global _ => .un
def leaves : D → List D
  | .agg cs => cs
  | d => [d]
def unleaf (ag : Bool) (cs : List D) : Option D := if ag then some (.agg cs) else match cs with | [c] => some c | _ => none
def dtk : Nat → List D → List D
  | 0, _ => []
  | _ + 1, [] => []
  | n + 1, d :: r => d :: dtk n r
def ddr : Nat → List D → List D
  | 0, l => l
  | _ + 1, [] => []
  | n + 1, _ :: r => ddr n r
def cellsD : (rs : List Sh) → tyL rs → List D
  | [], _ => []
  | [a], x => [.v a x]
  | a :: c :: r, x => .v a x.1 :: cellsD (c :: r) x.2
def Sh.zero : (sh : Sh) → Option sh.ty
  | .b => some false
  | .i _ => some (0 : Int)
  | .s => some []
  | .e => some true
  | .sl _ => some []
  | _ => none
def zeroD : Sh → D
  | .b => .bl false
  | .i k => .v (.i k) (0 : Int)
  | .s => .v .s []
  | .e => .nile
  | .sl _ => .nil
  | _ => .un
def zeroT : (rs : List Sh) → Option (tyL rs)
  | [] => some ()
  | [a] => a.zero
  | a :: c :: r => match a.zero, zeroT (c :: r) with | some x, some y => some (x, y) | _, _ => none
def bufOf (hp : Heap) (id : Nat) (rs : List Sh) : Option (List (tyL rs)) :=
  match hp.find id with
  | some ⟨_, _, .buf rs' l⟩ => match eqL? rs' rs with | some ⟨h⟩ => some (h ▸ l) | none => none
  | _ => none
def castR (sh : Sh) (sh' : Sh) (x : sh'.ty) : Option sh.ty := match Sh.eq? sh' sh with | some ⟨h⟩ => some (h ▸ x) | none => none
mutual
def toR (hp : Heap) : (sh : Sh) → D → Option (sh.ty × List Nat)
  | .b, d => match d with
    | .v sh' x => (castR .b sh' x).map (·, [])
    | .bl t => some (t, [])
    | _ => none
  | .i k, d => match d with
    | .v sh' x => (castR (.i k) sh' x).map (·, [])
    | _ => none
  | .s, d => match d with
    | .v sh' x => (castR .s sh' x).map (·, [])
    | _ => none
  | .e, d => match d with
    | .v sh' x => (castR .e sh' x).map (·, [])
    | .nile => some (true, [])
    | _ => none
  | .sl rs, d => match d with
    | .v sh' x => (castR (.sl rs) sh' x).map (·, [])
    | .nil => some ([], [])
    | .own id => (bufOf hp id rs).map (·, [id])
    | .osub id lo hi => (bufOf hp id rs).map fun l => ((l.take hi).drop lo, [id])
    | _ => none
  | .rf cs, d => match d with
    | .v sh' x => (castR (.rf cs) sh' x).map (·, [])
    | .ptr id off => if off = 0 then (match hp.find id with
      | some ⟨_, _, .box ds⟩ => (toRL hp cs ds).map fun (x, ids) => (x, id :: ids)
      | _ => none) else none
    | _ => none
  | .fn ag ps, d => match d with
    | .v sh' x => (castR (.fn ag ps) sh' x).map (·, [])
    | _ => none
  | .fn2 ps, d => match d with
    | .v sh' x => (castR (.fn2 ps) sh' x).map (·, [])
    | _ => none
def toRL (hp : Heap) : (rs : List Sh) → List D → Option (tyL rs × List Nat)
  | [], [] => some ((), [])
  | [a], [d] => toR hp a d
  | a :: c :: r, d :: ds => match toR hp a d with
    | some (x, i) => match toRL hp (c :: r) ds with
      | some (y, j) => some ((x, y), i ++ j)
      | none => none
    | none => none
  | _, _ => none
end
def lfIn (hp : Heap) (l : Lf) (d : D) (dl : List Nat) : Option (l.sh.ty × List Nat × List Nat) :=
  match l, d with
  | .r sh, d => (toR hp sh d).map fun (x, i) => (x, dl, i)
  | .o _, .nil => some ([], dl, [])
  | .o rs, .own id => if hp.wr [id] && !dl.contains id then (bufOf hp id rs).map fun l => (l, id :: dl, []) else none
  | .o rs, .osub id lo hi => if lo == 0 && hp.wr [id] && !dl.contains id then (bufOf hp id rs).map fun l => (l.take hi, id :: dl, []) else none
  | _, _ => none
def lfsIn (hp : Heap) : (ls : List Lf) → List D → List Nat → Option (tyL (lfShs ls) × List Nat × List Nat)
  | [], [], dl => some ((), dl, [])
  | [a], [d], dl => lfIn hp a d dl
  | a :: c :: r, d :: ds, dl => match lfIn hp a d dl with
    | some (x, dl, i) => match lfsIn hp (c :: r) ds dl with
      | some (y, dl, j) => some ((x, y), dl, i ++ j)
      | none => none
    | none => none
  | _, _, _ => none
def parIn (hp : Heap) (p : Par) (d : D) (dl : List Nat) : Option (p.ty × List Nat × List Nat) :=
  match p, d with
  | .one l, d => lfIn hp l d dl
  | .agg ls, .agg cs => lfsIn hp ls cs dl
  | .box ls, .ptr id off => match hp.find id with
    | some ⟨_, false, .box cs⟩ => if off == 0 && !dl.contains id then lfsIn hp ls cs (id :: dl) else none
    | _ => none
  | _, _ => none
def parsIn (hp : Heap) : (ps : List Par) → List D → List Nat → Option (parTy ps × List Nat × List Nat)
  | [], [], dl => some ((), dl, [])
  | [p], [d], dl => parIn hp p d dl
  | p :: q :: r, d :: ds, dl => match parIn hp p d dl with
    | some (x, dl, i) => match parsIn hp (q :: r) ds dl with
      | some (y, dl, j) => some ((x, y), dl, i ++ j)
      | none => none
    | none => none
  | _, _, _ => none
def apart (dl sn : List Nat) : Bool := sn.all fun n => !dl.contains n
def lfD (l : Lf) (x : l.sh.ty) (n : Nat) : D × List (Nat × Ob) × Nat :=
  match l, x with
  | .r sh, x => (.v sh x, [], n)
  | .o rs, x => (.own n, [(n, .buf rs x)], n + 1)
def lfsD : (ls : List Lf) → tyL (lfShs ls) → Nat → List D × List (Nat × Ob) × Nat
  | [], _, n => ([], [], n)
  | [a], x, n => match lfD a x n with | (d, o, n) => ([d], o, n)
  | a :: c :: r, x, n => match lfD a x.1 n with
    | (d, o, n) => match lfsD (c :: r) x.2 n with
      | (ds, o', n) => (d :: ds, o ++ o', n)
def parD (p : Par) (x : p.ty) (n : Nat) : D × List (Nat × Ob) × Nat :=
  match p, x with
  | .one l, x => lfD l x n
  | .agg ls, x => match lfsD ls x n with | (ds, o, n) => (.agg ds, o, n)
  | .box ls, x => match lfsD ls x (n + 1) with | (ds, o, m) => (.ptr n 0, (n, .box ds) :: o, m)
def parsD : (ps : List Par) → parTy ps → Nat → List D × List (Nat × Ob) × Nat
  | [], _, n => ([], [], n)
  | [p], x, n => match parD p x n with | (d, o, n) => ([d], o, n)
  | p :: q :: r, x, n => match parD p x.1 n with
    | (d, o, n) => match parsD (q :: r) x.2 n with
      | (ds, o', n) => (d :: ds, o ++ o', n)
def boxIds : List Par → List D → List Nat
  | .box _ :: r, .ptr id _ :: ds => id :: boxIds r ds
  | _ :: r, _ :: ds => boxIds r ds
  | _, _ => []
def backD : (ps : List Par) → parTy ps → List Nat → Nat → Option (List (Nat × Ob) × Nat)
  | [], _, [], n => some ([], n)
  | [.agg ls], x, [id], n => match lfsD ls x n with | (ds, o, n) => some ((id, .box ds) :: o, n)
  | .agg ls :: q :: r, x, id :: ids, n => match lfsD ls x.1 n with
    | (ds, o, n) => match backD (q :: r) x.2 ids n with
      | some (o', n) => some ((id, .box ds) :: o ++ o', n)
      | none => none
  | _, _, _, _ => none
def outsD : (nr : Nat) → (ps : List Par) → parTy ps → List Nat → Nat → Option (List D × List (Nat × Ob) × Nat)
  | 0, ps, x, ids, n => (backD ps x ids n).map fun (o, n) => ([], o, n)
  | 1, [p], x, [], n => match parD p x n with | (d, o, n) => some ([d], o, n)
  | nr + 1, p :: q :: r, x, ids, n => match parD p x.1 n with
    | (d, o, n) => match outsD nr (q :: r) x.2 ids n with
      | some (ds, o', n) => some (d :: ds, o ++ o', n)
      | none => none
  | _, _, _, _, _ => none
def Sh.mem : Sh → Bool
  | .sl _ | .rf _ | .fn _ _ | .fn2 _ => true
  | _ => false
def Lf.mem : Lf → Bool
  | .r sh => sh.mem
  | .o rs => rs.any Sh.mem
def Par.mem : Par → Bool
  | .one l => l.mem
  | .agg ls | .box ls => ls.any Lf.mem
end Go.Ev
