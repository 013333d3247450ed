/- A part of the proof. -/
import Derived.Test.YtdlcimoofbhfaaaGreatEvT2
import Derived.Orders
set_option linter.all false
set_option linter.constructorNameAsVariable false
set_option linter.unusedVariables false
set_option linter.unusedSimpArgs false
namespace Go.Ev
section
variable {c : Ctx} {val val' : Operand → D} {hp : Heap} {nid : Nat}
theorem buildCells_congr (ti : TI) : ∀ (ps : List (Nat × Operand)) (cs : List D), (∀ p ∈ ps, val p.2 = val' p.2) → buildCells ti val ps cs = buildCells ti val' ps cs
  | [], cs, h => rfl
  | (i, x) :: r, cs, h => by
    simp only [buildCells, h (i, x) (by simp)]
    split
    · split
      · exact buildCells_congr ti r _ (fun p hp => h p (by simp [hp]))
      · rfl
    · rfl
theorem as64s_congr : ∀ (l : List Operand), (∀ x ∈ l, val x = val' x) → as64s val l = as64s val' l
  | [], h => rfl
  | x :: r, h => by simp only [as64s, h x (by simp), as64s_congr r (fun y hy => h y (by simp [hy]))]
theorem oI_congr (x : Option Operand) (h : ∀ y, x = some y → val y = val' y) : oI val x = oI val' x := by
  cases x with
  | none => rfl
  | some y => simp only [oI, h y rfl]
theorem map_congr' (l : List Operand) (h : ∀ x ∈ l, val x = val' x) : l.map val = l.map val' := List.map_congr_left h
theorem evOp_congr (o : Op) (h : ∀ x ∈ o.operands, val x = val' x) : evOp c val hp nid o = evOp c val' hp nid o := by
  cases o with
  | move x => simp only [evOp, h x (by simp [Op.operands])]
  | assign x => simp only [evOp, h x (by simp [Op.operands])]
  | pick t a b => simp only [evOp, h t (by simp [Op.operands]), h a (by simp [Op.operands]), h b (by simp [Op.operands])]
  | alloc e => rfl
  | box e x => simp only [evOp, h x (by simp [Op.operands])]
  | build t ps =>
    simp only [evOp]
    rw [buildCells_congr (val := val) (val' := val') _ ps.toList _ (fun p hp => h p.2 (by simp [Op.operands]; exact ⟨_, by simpa using hp⟩))]
  | buildSlice t len ps =>
    simp only [evOp]
    have : (ps.toList.map fun p => val p.2) = ps.toList.map fun p => val' p.2 := List.map_congr_left (fun p hp => h p.2 (by simp [Op.operands]; exact ⟨_, by simpa using hp⟩))
    rw [this]
  | load t x => simp only [evOp, h x (by simp [Op.operands])]
  | store t x y => simp only [evOp, h x (by simp [Op.operands]), h y (by simp [Op.operands])]
  | nilCheck x => simp only [evOp, h x (by simp [Op.operands])]
  | binOp op t x y u => simp only [evOp, h x (by simp [Op.operands]), h y (by simp [Op.operands])]
  | unOp op t x => cases op <;> simp only [evOp, h x (by simp [Op.operands])]
  | convert s t x => simp only [evOp, h x (by simp [Op.operands])]
  | makeFunc fn f cs =>
    cases fn <;> simp only [evOp]
    have : cs.toList.map val = cs.toList.map val' := List.map_congr_left (fun p hp => h p (by simp [Op.operands]; right; simpa using hp))
    rw [this]
  | makeSlice t x y => simp only [evOp, h x (by simp [Op.operands]), h y (by simp [Op.operands])]
  | slice t x lo hi mx =>
    cases mx with
    | none =>
      simp only [evOp, h x (by simp [Op.operands])]
      rw [oI_congr lo (fun y hy => h y (by subst hy; simp [Op.operands])), oI_congr hi (fun y hy => h y (by subst hy; simp [Op.operands]))]
    | some m => rfl
  | fieldAddr t x f => simp only [evOp, h x (by simp [Op.operands])]
  | field t x f => simp only [evOp, h x (by simp [Op.operands])]
  | indexAddr t x y => simp only [evOp, h x (by simp [Op.operands]), h y (by simp [Op.operands])]
  | index t x y => simp only [evOp, h x (by simp [Op.operands]), h y (by simp [Op.operands])]
  | extract x n => simp only [evOp, h x (by simp [Op.operands])]
  | call cl =>
    simp only [evOp]
    cases hb : cl.callee with
    | builtin b =>
      have ha : ∀ x ∈ cl.args.toList, val x = val' x := fun x hx => h x (by simp [Op.operands, Call.operands, hb]; simpa using hx)
      cases b <;> dsimp only
      all_goals first
        | rfl
        | (rw [as64s_congr _ ha])
        | (split
           · rename_i e _; rw [e] at ha; simp only [ha _ (List.mem_cons_self), ha _ (List.mem_cons_of_mem _ List.mem_cons_self)]
           · rfl)
        | (split
           · rename_i e _; rw [e] at ha; simp only [ha _ (List.mem_cons_self)]
           · rfl)
    | value f =>
      have ha : ∀ x ∈ cl.args.toList, val x = val' x := fun x hx => h x (by simp [Op.operands, Call.operands, hb]; right; simpa using hx)
      have hf : val f = val' f := h f (by simp [Op.operands, Call.operands, hb])
      dsimp only
      rw [hf, List.map_congr_left ha]
    | invoke _ _ => rfl
  | _ => rfl
end
end Go.Ev
