/- A part of the proof. -/
import Derived.Test.YtdlcimoofbhfaaaGreatEvR
import Derived.Tactics
set_option linter.all false
set_option linter.constructorNameAsVariable false
set_option linter.unusedVariables false
namespace Go.Ev
def rowsAt (P : Program) (w : World) (Im : IM) (rs : List Sh) (l : List (tyL rs)) (b o : Nat) : Prop :=
  ∀ (i : Nat) (r : tyL rs), l[i]? = some r → ∃ vs, CR P rs r w Im vs ∧ cellsAt w b (o + i * rs.length) vs
def LfR (P : Program) (w : World) (Im : IM) : (l : Lf) → l.sh.ty → Value → List Nat → Prop
  | .r sh, x, v, bs => bs = [] ∧ VR P sh x w Im v
  | .o rs, x, v, bs => (x = [] ∧ v = .slice none 0 0 ∧ bs = []) ∨
      ∃ b o cap cs e fz, bs = [b] ∧ v = .slice (some ⟨b, o, none⟩) (List.length x) cap ∧ List.length x ≤ cap ∧ w.heap[b]? = some (.cells cs e fz) ∧ freeB rs fz cs.size ∧ o + cap * rs.length ≤ cs.size ∧ rowsAt P w Im rs x b o
def LfsR (P : Program) (w : World) (Im : IM) : (ls : List Lf) → tyL (lfShs ls) → List Value → List Nat → Prop
  | [], _, vs, bs => vs = [] ∧ bs = []
  | [a], x, vs, bs => ∃ v, vs = [v] ∧ LfR P w Im a x v bs
  | a :: c :: r, x, vs, bs => ∃ v vs' bs1 bs2, vs = v :: vs' ∧ bs = bs1 ++ bs2 ∧ LfR P w Im a x.1 v bs1 ∧ LfsR P w Im (c :: r) x.2 vs' bs2
def ParR (P : Program) (w : World) (Im : IM) (p : Par) (x : p.ty) (v : Value) (bs bx : List Nat) : Prop :=
  match p, x with
  | .one l, x => bx = [] ∧ LfR P w Im l x v bs
  | .agg ls, x => bx = [] ∧ ∃ vs, v = .agg vs.toArray ∧ LfsR P w Im ls x vs bs
  | .box ls, x => ∃ b vs bs' e fz, bx = [b] ∧ bs = b :: bs' ∧ v = .pointer (some ⟨b, 0, none⟩) ∧ w.heap[b]? = some (.cells (List.toArray vs) e fz) ∧ free fz vs.length ∧ LfsR P w Im ls x vs bs'
def ParsR (P : Program) (w : World) (Im : IM) : (ps : List Par) → parTy ps → List Value → List Nat → List Nat → Prop
  | [], _, vs, bs, bx => vs = [] ∧ bs = [] ∧ bx = []
  | [p], x, vs, bs, bx => ∃ v, vs = [v] ∧ ParR P w Im p x v bs bx
  | p :: q :: r, x, vs, bs, bx => ∃ v vs' bs1 bs2 bx1 bx2, vs = v :: vs' ∧ bs = bs1 ++ bs2 ∧ bx = bx1 ++ bx2 ∧ ParR P w Im p x.1 v bs1 bx1 ∧ ParsR P w Im (q :: r) x.2 vs' bs2 bx2
def BackR (P : Program) (w : World) (Im : IM) : (ps : List Par) → parTy ps → List Nat → List Nat → Prop
  | [], _, bx, bs => bx = [] ∧ bs = []
  | [.agg ls], x, bx, bs => ∃ b vs bs' e fz, bx = [b] ∧ bs = b :: bs' ∧ w.heap[b]? = some (.cells (List.toArray vs) e fz) ∧ free fz vs.length ∧ LfsR P w Im ls x vs bs'
  | .agg ls :: q :: r, x, bx, bs => ∃ b bx' vs bs' bs2 e fz, bx = b :: bx' ∧ bs = b :: (bs' ++ bs2) ∧ w.heap[b]? = some (.cells (List.toArray vs) e fz) ∧ free fz vs.length ∧ LfsR P w Im ls x.1 vs bs' ∧ BackR P w Im (q :: r) x.2 bx' bs2
  | _, _, _, _ => False
def OutR (P : Program) (w : World) (Im : IM) : (nr : Nat) → (ps : List Par) → parTy ps → List Value → List Nat → List Nat → Prop
  | 0, ps, y, us, bx, bs => us = [] ∧ BackR P w Im ps y bx bs
  | 1, [p], y, us, bx, bs => bx = [] ∧ ∃ u bx', us = [u] ∧ ParR P w Im p y u bs bx'
  | nr + 1, p :: q :: r, y, us, bx, bs => ∃ u us' bs1 bs2 bx', us = u :: us' ∧ bs = bs1 ++ bs2 ∧ ParR P w Im p y.1 u bs1 bx' ∧ OutR P w Im nr (q :: r) y.2 us' bx bs2
  | _, _, _, _, _, _ => False
def resV (us : List Value) : Value := match us with | [u] => u | us => .tuple us.toArray
structure After (P : Program) (S : Sig) (y : S.Out) (w : World) (Im : IM) (bs bx : List Nat) (v : Value) (w' : World) (us : List Value) (bs' : List Nat) : Prop where
  val : v = resV us
  qt : outside w' = outside w
  size : w.heap.size ≤ w'.heap.size
  kept : ∀ b, b < w.heap.size → b ∉ bs → w'.heap[b]? = w.heap[b]?
  nodup : bs'.Nodup
  from_ : ∀ b ∈ bs', (b ∈ bs ∨ w.heap.size ≤ b) ∧ b < w'.heap.size
  out : OutR P w' (fun b => (Im b ∨ w.heap.size ≤ b ∨ b ∈ bs) ∧ b < w'.heap.size ∧ b ∉ bs') (S.outs.length - bx.length) S.outs y us bx bs'
def Ok (P : Program) (f : Nat) (S : Sig) (x : S.In) (y : S.Out) : Prop :=
  ∀ (w : World) (Im : IM) (vs : List Value) (bs bx : List Nat), (∀ b, Im b → b < w.heap.size) → ParsR P w Im S.ins x vs bs bx → bs.Nodup → (∀ b ∈ bs, b < w.heap.size ∧ ¬ Im b) →
    Calls P f vs.toArray w fun e w' => ∃ v us bs', e = .returned v ∧ After P S y w Im bs bx v w' us bs'
abbrev Again := List (Σ S : List Sh, tyL S → Prop)
section
variable (okp : (f : Nat) → (S : Sig) → S.In → S.Out → Prop)
def sat {R : Type} : Tr R → Again → (R → Prop) → Prop
  | .fail, _, _ => False
  | .ret y, _, Q => Q y
  | .ite b x y, As, Q => (b = true → sat x As Q) ∧ (b = false → sat y As Q)
  | .call f S x k, As, Q => ∃ y, okp f S x y ∧ sat (k y) As Q
  | .callv p k, As, Q => ∃ t, p t ∧ sat (k t) As Q
  | .idx l i k, As, Q => ∃ r, 0 ≤ i ∧ l[i.toNat]? = some r ∧ sat (k r) As Q
  | .req p k, As, Q => p ∧ sat k As Q
  | .loop S v b, As, Q => ∀ X : tyL S → Prop, (∀ v, sat (b v) (As ++ [⟨S, X⟩]) Q → X v) → X v
  | .again n S v, As, _ => ∃ A : tyL S → Prop, As[n]? = some ⟨S, A⟩ ∧ A v
inductive Reach {A : Type} : Tr A → A → Prop
  | ret (y : A) : Reach (.ret y) y
  | iteT {b : Bool} {x y : Tr A} {z : A} : b = true → Reach x z → Reach (.ite b x y) z
  | iteF {b : Bool} {x y : Tr A} {z : A} : b = false → Reach y z → Reach (.ite b x y) z
  | call {f : Nat} {S : Sig} {x : S.In} {k : S.Out → Tr A} {y : S.Out} {z : A} : okp f S x y → Reach (k y) z → Reach (.call f S x k) z
  | callv {p : Bool → Prop} {k : Bool → Tr A} {t : Bool} {z : A} : p t → Reach (k t) z → Reach (.callv p k) z
  | idx {rs : List Sh} {l : List (tyL rs)} {i : Int} {k : tyL rs → Tr A} {r : tyL rs} {z : A} : 0 ≤ i → l[i.toNat]? = some r → Reach (k r) z → Reach (.idx l i k) z
  | req {p : Prop} {k : Tr A} {z : A} : p → Reach k z → Reach (.req p k) z
theorem sat_bind {A R : Type} (K : A → Tr R) {As : Again} {Q : R → Prop} : ∀ (t : Tr A), sat okp (t.bind K) As Q → ∃ y, Reach okp t y ∧ sat okp (K y) As Q
  | .fail, h => by simp [Tr.bind, sat] at h
  | .ret y, h => ⟨y, .ret y, by simpa [Tr.bind] using h⟩
  | .ite b x y, h => by
    simp only [Tr.bind, sat] at h
    cases b with
    | true => obtain ⟨z, h1, h2⟩ := sat_bind K x (h.1 rfl); exact ⟨z, .iteT rfl h1, h2⟩
    | false => obtain ⟨z, h1, h2⟩ := sat_bind K y (h.2 rfl); exact ⟨z, .iteF rfl h1, h2⟩
  | .call f S x k, h => by
    simp only [Tr.bind, sat] at h
    obtain ⟨y, h0, h⟩ := h
    obtain ⟨z, h1, h2⟩ := sat_bind K (k y) h
    exact ⟨z, .call h0 h1, h2⟩
  | .callv p k, h => by
    simp only [Tr.bind, sat] at h
    obtain ⟨y, h0, h⟩ := h
    obtain ⟨z, h1, h2⟩ := sat_bind K (k y) h
    exact ⟨z, .callv h0 h1, h2⟩
  | .idx l i k, h => by
    simp only [Tr.bind, sat] at h
    obtain ⟨y, h0, h3, h⟩ := h
    obtain ⟨z, h1, h2⟩ := sat_bind K (k y) h
    exact ⟨z, .idx h0 h3 h1, h2⟩
  | .req p k, h => by
    simp only [Tr.bind, sat] at h
    obtain ⟨h0, h⟩ := h
    obtain ⟨z, h1, h2⟩ := sat_bind K k h
    exact ⟨z, .req h0 h1, h2⟩
  | .loop S v b, h => by simp [Tr.bind, sat] at h
  | .again n S v, h => by simp [Tr.bind, sat] at h
end
structure Trans (H H' : Hp) (Q Q' : QM) (Im Im' : IM) (w w' : World) (ids : List Nat) (nid : Nat) : Prop where
  grow : w.heap.size ≤ w'.heap.size
  imm : ∀ b, Im b → Im' b ∧ w'.heap[b]? = w.heap[b]?
  imr : ∀ b, Im' b → Im b ∨ w.heap.size ≤ b ∨ ∃ id h o, H id = some h ∧ Q id = some (b, o)
  old : ∀ b, b < w.heap.size → (∀ id h o, H id = some h → Q id = some (b, o) → False) → w'.heap[b]? = w.heap[b]?
  own : ∀ id h b o, H' id = some h → Q' id = some (b, o) → w.heap.size ≤ b ∨ ∃ id h o, H id = some h ∧ Q id = some (b, o)
  refs : ∀ id, ¬ (nid ≤ id ∧ id < nid + 8) → RefOk w w' H.kd H'.kd Q Q' id
  out : ∀ id, id ∉ ids → H' id = H id ∧ Q' id = Q id
  rof : ∀ id h, id ∈ ids → H id = some h → h.ro = false
  newr : ∀ id, id ∈ ids → H id = none → nid ≤ id ∧ id < nid + 8
  qt : outside w' = outside w
theorem Trans.refl {H : Hp} {Q : QM} {Im : IM} {w w' : World} {nid : Nat} (hw : w'.heap = w.heap) (hq : outside w' = outside w) : Trans H H Q Q Im Im w w' [] nid where
  grow := by rw [hw]; exact Nat.le_refl _
  imm := fun b h => ⟨h, by rw [hw]⟩
  imr := fun b h => .inl h
  old := fun b _ _ => by rw [hw]
  own := fun id h b o h1 h2 => .inr ⟨id, h, o, h1, h2⟩
  refs := fun id _ => ⟨.inr ⟨rfl, rfl, fun b o _ => .inr (by simp only [bsize, hw])⟩⟩
  out := fun id _ => ⟨rfl, rfl⟩
  rof := fun id h hi => by cases hi
  newr := fun id hi => by cases hi
  qt := hq
def OpDoes (P : Program) (ρ : Operand → Value) (o : Oper) (w : World) (post : Value → World → Prop) : Prop :=
  match (execOp ρ o).run P w with
  | .ok (.value v) w' => post v w'
  | .ok .skip w' => post undef w'
  | .ok (.enter f args) w' => Calls P f args w' fun e w'' => ∃ v, e = .returned v ∧ post v w''
  | _ => False
theorem OpDoes.wp {P : Program} {o : Oper} {a : Act} {w : World} {next : Act → World → Prop} {Q : Exit → Act → World → Prop} {post : Value → World → Prop}
    (h : OpDoes P a.eval o w post) (hn : ∀ v w', post v w' → next (a.put o.dst v) w') : o.wp P a w next Q := by
  unfold OpDoes at h
  unfold Oper.wp
  generalize (execOp a.eval o).run P w = r at *
  cases r with
  | ok n w' =>
    cases n <;> simp only [Oper.upon] at h ⊢ <;> first
      | exact hn _ _ h
      | exact h.elim
      | exact h.mono fun e w'' ⟨v, he, hp⟩ => by subst he; exact hn _ _ hp
  | halt x w' => exact h.elim
theorem OpDoes.mono {P : Program} {ρ : Operand → Value} {o : Oper} {w : World} {post post' : Value → World → Prop}
    (h : OpDoes P ρ o w post) (hn : ∀ v w', post v w' → post' v w') : OpDoes P ρ o w post' := by
  unfold OpDoes at *
  generalize (execOp ρ o).run P w = r at *
  cases r with
  | ok n w' =>
    cases n <;> first
      | exact hn _ _ h
      | exact h.elim
      | exact Calls.mono h fun e w'' ⟨v, he, hp⟩ => ⟨v, he, hn _ _ hp⟩
  | halt x w' => exact h.elim
def Hp.app (H : Hp) (d : Dl) : Hp := fun id => match look d.put id with | some ob => some ⟨id, false, ob⟩ | none => if id ∈ d.del then none else H id
def Post (P : Program) (H : Hp) (Q : QM) (Im : IM) (w : World) (nid : Nat) (x : D × Dl) (u : Value) (w' : World) : Prop :=
  ∃ Q' Im', WR P (H.app x.2) Q' Im' w' ∧ Trans H (H.app x.2) Q Q' Im Im' w w' x.2.ids nid ∧ DR P w' Im' (H.app x.2).kd Q' x.1 u
theorem Hp.app_nil (H : Hp) : H.app {} = H := by funext id; simp [Hp.app, look]
theorem WR.world {P : Program} {H : Hp} {Q : QM} {Im : IM} {w w' : World} (h : WR P H Q Im w) (hw : w'.heap = w.heap) : WR P H Q Im w' := by
  have hm : ∀ b, Im b → Im b ∧ w'.heap[b]? = w.heap[b]? := fun b hb => ⟨hb, by rw [hw]⟩
  refine ⟨fun b hb => by rw [hw]; exact h.imlt b hb, fun id h' b o h1 h2 => by rw [hw]; exact h.own id h' b o h1 h2, h.inj, fun id h' h1 => ?_⟩
  have h2 := h.ob id h' h1
  cases ho : h'.ob with
  | box ds =>
    rw [ho] at h2
    obtain ⟨b, us, e, fz, a1, a2, a3, a4⟩ := h2
    exact ⟨b, us, e, fz, a1, by rw [hw]; exact a2, a3, DRL_mono hm ds us (fun id _ => ⟨.inr ⟨rfl, rfl, fun b o _ => .inr (by simp only [bsize, hw])⟩⟩) a4⟩
  | buf rs l =>
    rw [ho] at h2
    rcases h2 with h2 | ⟨b, o, cs, e, fz, a1, a2, a3, a4, a5⟩
    · exact .inl h2
    · refine .inr ⟨b, o, cs, e, fz, a1, by rw [hw]; exact a2, a3, a4, fun i r hr => ?_⟩
      obtain ⟨vs, b1, b2⟩ := a5 i r hr
      exact ⟨vs, CR_mono rs r hm b1, b2⟩
theorem Post.pure {P : Program} {H : Hp} {Q : QM} {Im : IM} {w w' : World} {nid : Nat} {d : D} {u : Value} (hw : WR P H Q Im w) (hp : (w'.heap, outside w') = (w.heap, outside w)) (hd : DR P w Im H.kd Q d u) :
    Post P H Q Im w nid (d, {}) u w' := by
  have hh : w'.heap = w.heap := congrArg Prod.fst hp
  have hq : outside w' = outside w := congrArg Prod.snd hp
  refine ⟨Q, Im, ?_, ?_, ?_⟩
  · simp only [Hp.app_nil]; exact hw.world hh
  · simp only [Hp.app_nil]; exact Trans.refl hh hq
  · simp only [Hp.app_nil]
    exact DR_mono (fun b hb => ⟨hb, by rw [hh]⟩) d u (fun id _ => ⟨.inr ⟨rfl, rfl, fun b o _ => .inr (by simp only [bsize, hh])⟩⟩) hd
end Go.Ev
