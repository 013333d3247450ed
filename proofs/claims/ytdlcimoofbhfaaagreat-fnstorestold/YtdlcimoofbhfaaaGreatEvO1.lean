/- A part of the proof. -/
import Derived.Test.YtdlcimoofbhfaaaGreatEvS
import Derived.Laws.Cells
import Derived.Laws.Entries
import Derived.Laws.StructEq
set_option linter.all false
set_option linter.constructorNameAsVariable false
set_option linter.unusedVariables false
set_option linter.unusedSimpArgs false
namespace Go.Ev
def zeroCells : List Sh → List Value → Prop
  | [], us => us = []
  | sh :: r, us => ∃ u us', us = u :: us' ∧ (match sh with | .b => u = .bool false | .i k => u = .int k 0 | .s => ∃ s : ByteArray, u = .string s ∧ s.data.toList = [] | .e => u = .nilIface | .sl _ => u = .slice none 0 0 | _ => True) ∧ zeroCells r us'
def notAgg : TypeDesc → Prop
  | .struct _ | .array _ _ => False
  | _ => True
def isAggD : TypeDesc → Bool
  | .struct _ | .array _ _ => true
  | _ => false
structure ElemOk (P : Program) (e : TypeId) (rs : List Sh) : Prop where
  info : ∃ i z, P.info? e = some i ∧ i.size = rs.length ∧ 1 ≤ i.bytes ∧ i.bytes ≤ 65536 ∧ i.zero = some z ∧ zeroCells rs z.cells.toList
  u8 : rs = [.i .u8] → P.underlying e = some (.int .u8)
  i32 : P.underlying e = some (.int .u8) → rs = [.i .u8]
  pos : 0 < rs.length
def shDesc (P : Program) : Sh → TypeDesc → Prop
  | .b, d => d = .bool
  | .i k, d => d = .int k
  | .s, d => d = .string
  | .e, d => ∃ ms, d = .interface ms
  | .sl rs, d => ∃ e, d = .slice e ∧ ElemOk P e rs
  | _, d => isAggD d = false
def fldD (P : Program) (T : TypeId) : Sh → Prop
  | .b => P.underlying T = some .bool
  | .i k => P.underlying T = some (.int k)
  | .s => P.underlying T = some .string
  | _ => False
def eqFs (P : Program) : Nat → List Sh → List Field → Prop
  | _, [], fs => fs = []
  | n, sh :: r, fs => ∃ f fs', fs = f :: fs' ∧ f.name ≠ "_" ∧ f.offset = n ∧ fldD P f.type sh ∧ eqFs P (n + 1) r fs'
inductive Desc (P : Program) (t : TypeId) (ti : TI) : Prop
  | agg (fs : Array Field) : ti.ag = true → P.underlying t = some (.struct fs) ∧ fs.size = ti.fs.length →
      (∀ (j : Nat) off n ag, ti.fs[j]? = some (off, n, ag) → ∃ f i d, fs[j]? = some f ∧ f.offset = off ∧ P.info? f.type = some i ∧ P.underlying f.type = some d ∧ i.size = n ∧ 0 < n ∧ off + n ≤ ti.cs.length ∧ isAggD d = ag) →
      (∃ i cs, P.info? t = some i ∧ i.zero = some (.agg cs)) → (ti.eq = true → P.eqGuardType P.depth t = false ∧ P.stoodInHeld t = false ∧ eqFs P 0 ti.cs fs.toList) → Desc P t ti
  | one (sh : Sh) (d : TypeDesc) : ti.ag = false → ti.eq = false → ti.fs = [] → ti.cs = [sh] → P.underlying t = some d → isAggD d = false → shDesc P sh d → Desc P t ti
structure TiF (P : Program) (t : TypeId) (ti : TI) : Prop where
  info : ∃ i z, P.info? t = some i ∧ i.size = ti.cs.length ∧ i.zero = some z ∧ zeroCells ti.cs z.cells.toList
  desc : Desc P t ti
def TiOk (P : Program) (t : TypeId) (ti : TI) : Prop := (ti.cs = [] ∧ ti.ag = false ∧ ti.fs = [] ∧ ti.eq = false) ∨ (0 < ti.cs.length ∧ TiF P t ti)
structure CtxOk (P : Program) (c : Ctx) : Prop where
  ti : ∀ t, TiOk P t (c.Θ t)
  okp : ∀ f S x y, c.okp f S x y → Ok P f S x y
  fn : ∀ g S, c.sigs g = some S → Callable P g
theorem DR_ofVal {P : Program} {w : World} {Im : IM} {K : Nat → Option Kd} {Q : QM} (v : Value) : DR P w Im K Q (ofVal v) v := by
  unfold ofVal
  split <;> simp only [DR, VR]
  exact ⟨_, rfl, rfl⟩
theorem VR_one {P : Program} : ∀ (sh : Sh) (x : sh.ty) {w : World} {Im : IM} {v : Value}, VR P sh x w Im v → v.oneCell' = true
  | .b, x, w, Im, v, h => by simp only [VR] at h; subst h; rfl
  | .i k, x, w, Im, v, h => by simp only [VR] at h; subst h; rfl
  | .s, x, w, Im, v, h => by simp only [VR] at h; obtain ⟨s, rfl, _⟩ := h; rfl
  | .e, x, w, Im, v, h => by simp only [VR] at h; rcases h with ⟨_, rfl⟩ | ⟨_, t, u, rfl⟩ <;> rfl
  | .sl rs, x, w, Im, v, h => by simp only [VR] at h; obtain ⟨a, cap, rfl, _⟩ := h; rfl
  | .rf cs, x, w, Im, v, h => by simp only [VR] at h; obtain ⟨b, o, vs, rfl, _⟩ := h; rfl
  | .fn _ _, x, w, Im, v, h => by simp only [VR] at h; obtain ⟨g, caps, rfl, _⟩ := h; rfl
  | .fn2 _, x, w, Im, v, h => by simp only [VR] at h; obtain ⟨g, caps, rfl, _⟩ := h; rfl
theorem DR_one {P : Program} {w : World} {Im : IM} {K : Nat → Option Kd} {Q : QM} : ∀ (d : D) (u : Value), solid d = true → DR P w Im K Q d u → u.oneCell' = true
  | .v sh x, u, _, h => by simp only [DR] at h; exact VR_one sh x h
  | .bl t, u, _, h => by simp only [DR] at h; subst h; rfl
  | .nil, u, _, h => by simp only [DR] at h; subst h; rfl
  | .nile, u, _, h => by simp only [DR] at h; subst h; rfl
  | .un, u, hs, h => by simp [solid] at hs
  | .sk, u, hs, h => by simp [solid] at hs
  | .own id, u, _, h => by simp only [DR] at h; exact h.1
  | .osub id lo hi, u, _, h => by simp only [DR] at h; exact h.1
  | .ptr id off, u, _, h => by simp only [DR] at h; exact h.1
  | .el id row off, u, _, h => by simp only [DR] at h; exact h.1
  | .rp rs x off, u, _, h => by simp only [DR] at h; obtain ⟨b, o, vs, rfl, _⟩ := h; rfl
  | .clo g caps, u, _, h => by simp only [DR] at h; obtain ⟨cs, rfl, _⟩ := h; rfl
  | .agg ds, u, hs, h => by simp [solid] at hs
  | .tup ds, u, hs, h => by simp [solid] at hs
section
variable {P : Program} {c : Ctx} {H : Hp} {Q : QM} {Im : IM} {w : World} {val : Operand → D} {ρ : Operand → Value} {hpE : Heap} {nid : Nat} {o : Oper} {x : D × Dl}
abbrev Sim (P : Program) (H : Hp) (Q : QM) (Im : IM) (w : World) (ρ : Operand → Value) (o : Oper) (nid : Nat) (x : D × Dl) : Prop := OpDoes P ρ o w (Post P H Q Im w nid x)
theorem sim_value {d : D} {u : Value} {w' : World} (hw : WR P H Q Im w) (hr : (execOp ρ o).run P w = .ok (.value u) w') (hh : (w'.heap, outside w') = (w.heap, outside w)) (hd : DR P w Im H.kd Q d u) :
    Sim P H Q Im w ρ o nid (d, {}) := by
  unfold Sim OpDoes
  rw [hr]
  exact Post.pure hw hh hd
theorem reach_just {okp} {d : D} (h : Reach okp (just d) x) : x = (d, {}) := by
  unfold just at h
  cases h
  rfl
theorem reach_ofO {okp} {α A : Type} {oo : Option α} {K : α → Tr A} {z : A} (h : Reach okp (ofO oo K) z) : ∃ y, oo = some y ∧ Reach okp (K y) z := by
  cases oo with
  | none => simp only [ofO] at h; cases h
  | some y => exact ⟨y, rfl, h⟩
theorem sim_move (hw : WR P H Q Im w) (hv : ∀ x, DR P w Im H.kd Q (val x) (ρ x)) {y : Operand} (ho : o.op = .move y ∨ o.op = .assign y)
    (h : Reach c.okp (just (val y)) x) : Sim P H Q Im w ρ o nid x := by
  rw [reach_just h]
  refine sim_value (u := ρ y) (w' := w) hw ?_ rfl (hv y)
  rcases ho with ho | ho <;> simp [execOp, ho]
theorem sim_pick (hw : WR P H Q Im w) (hv : ∀ x, DR P w Im H.kd Q (val x) (ρ x)) {t a b : Operand} (ho : o.op = .pick t a b)
    (h : Reach c.okp (evOp c val hpE nid (.pick t a b)) x) : Sim P H Q Im w ρ o nid x := by
  have ht := hv t
  simp only [evOp] at h
  split at h
  · rename_i e
    rw [e] at ht; simp only [DR] at ht
    rw [reach_just h]
    exact sim_value (u := ρ a) (w' := w) hw (by simp [execOp, ho, ht, asBool]) rfl (hv a)
  · rename_i e
    rw [e] at ht; simp only [DR] at ht
    rw [reach_just h]
    exact sim_value (u := ρ b) (w' := w) hw (by simp [execOp, ho, ht, asBool]) rfl (hv b)
  · rename_i b' e
    rw [e] at ht; simp only [DR, VR] at ht
    cases h with
    | iteT hb h =>
      rw [reach_just h]
      exact sim_value (u := ρ a) (w' := w) hw (by simp [execOp, ho, ht, asBool, hb]) rfl (hv a)
    | iteF hb h =>
      rw [reach_just h]
      exact sim_value (u := ρ b) (w' := w) hw (by simp [execOp, ho, ht, asBool, hb]) rfl (hv b)
  · cases h
end
end Go.Ev
