/- A part of the proof. -/
import Derived.Test.YtdlcimoofbhfaaaGreatEvT3
set_option linter.all false
set_option linter.constructorNameAsVariable false
set_option linter.unusedVariables false
set_option linter.unusedSimpArgs false
namespace Go.Ev
@[reducible] def exOf : Ex → Exit
  | .normal => .normal
  | .exit n => .exit n
  | .ret => .ret
section
variable {P : Program} {c : Ctx} {R : Type} {Qf : R → Prop}
abbrev Rest (P : Program) (c : Ctx) (Qf : R → Prop) (D : List Nat) (Kc : Nat → Ex → LSt → Tr R) (As : Again) (σ : LSt) (a : Act) (w : World) (Q : QM) (Im : IM) (Qp : Exit → Act → World → Prop) : Prop :=
  ∀ m e σ' As' a' w' Q' Im', As'.length = m → (∃ ext, As' = As ++ ext) → σ'.loc = [] → Inv P σ' σ'.nx a' w' Q' Im' → Since σ.nx σ.hp.find Q Im w σ'.hp.find Q' Im' w' → TK D a a' → σ.nx ≤ σ'.nx → sat c.okp (Kc m e σ') As' Qf → Qp (exOf e) a' w'
def Sound (P : Program) (c : Ctx) (Qf : R → Prop) (code : Code) : Prop :=
  ∀ (n : Nat) (σ : LSt) (Kc : Nat → Ex → LSt → Tr R) (As : Again) (a : Act) (w : World) (Q : QM) (Im : IM) (Qp : Exit → Act → World → Prop),
    As.length = n → σ.loc = [] → Inv P σ σ.nx a w Q Im → (∀ d ∈ dsts code, d < a.tmps.size) → sat c.okp (ev c code n σ Kc) As Qf → Rest P c Qf (dsts code) Kc As σ a w Q Im Qp → code.wp P Qp a w
theorem sound_skip : Sound P c Qf .skip := by
  intro n σ Kc As a w Q Im Qp hl hloc hI hd hs hQ
  simp only [ev] at hs
  exact wp_skip (hQ n .normal σ As a w Q Im hl ⟨[], by simp⟩ hloc hI Since.refl TK.refl (Nat.le_refl _) hs)
theorem sound_exit {k : Nat} : Sound P c Qf (.exit k) := by
  intro n σ Kc As a w Q Im Qp hl hloc hI hd hs hQ
  simp only [ev] at hs
  exact wp_exit (hQ n (.exit k) σ As a w Q Im hl ⟨[], by simp⟩ hloc hI Since.refl TK.refl (Nat.le_refl _) hs)
theorem sound_ret : Sound P c Qf .ret := by
  intro n σ Kc As a w Q Im Qp hl hloc hI hd hs hQ
  simp only [ev] at hs
  exact wp_ret (hQ n .ret σ As a w Q Im hl ⟨[], by simp⟩ hloc hI Since.refl TK.refl (Nat.le_refl _) hs)
theorem sound_region (hc : CtxOk P c) {id : Nat} {ops : Array Oper} : Sound P c Qf (.region id ops false) := by
  intro n σ Kc As a w Q Im Qp hl hloc hI hd hs hQ
  simp only [ev] at hs
  refine wp_region_list (evOps_sound hc ops.toList 0 σ a w Q Im hI (fun o ho d hd' => hd d ?_) hs ?_)
  · simp only [dsts, List.mem_filterMap]; exact ⟨o, ho, hd'⟩
  · intro σ' a' w' Q' Im' g0 g9 g1 g2 g3 g4
    exact hQ n .normal σ' As a' w' Q' Im' hl ⟨[], by simp⟩ g0 g9 g1 g2 g3 g4
theorem sound_seq {x y : Code} (hx : Sound P c Qf x) (hy : Sound P c Qf y) : Sound P c Qf (.seq x y) := by
  intro n σ Kc As a w Q Im Qp hl hloc hI hd hs hQ
  simp only [ev] at hs
  refine wp_seq (hx n σ _ As a w Q Im _ hl hloc hI (fun d h => hd d (by simp [dsts, h])) hs ?_)
  intro m e σ1 As1 a1 w1 Q1 Im1 l1 ⟨ext, he⟩ loc1 I1 S1 T1 n1 s1
  cases e with
  | normal =>
    refine hy m σ1 Kc As1 a1 w1 Q1 Im1 Qp l1 loc1 I1 (fun d h => by rw [T1.size]; exact hd d (by simp [dsts, h])) s1 ?_
    intro m2 e2 σ2 As2 a2 w2 Q2 Im2 l2 ⟨ext2, he2⟩ loc2 I2 S2 T2 n2 s2
    exact hQ m2 e2 σ2 As2 a2 w2 Q2 Im2 l2 ⟨ext ++ ext2, by rw [he2, he, List.append_assoc]⟩ loc2 I2 (S1.trans S2 n1) ((T1.mono (by intro d h; simp [dsts, h])).trans (T2.mono (by intro d h; simp [dsts, h]))) (Nat.le_trans n1 n2) s2
  | exit k => exact hQ m (.exit k) σ1 As1 a1 w1 Q1 Im1 l1 ⟨ext, he⟩ loc1 I1 S1 (T1.mono (by intro d h; simp [dsts, h])) n1 s1
  | ret => exact hQ m .ret σ1 As1 a1 w1 Q1 Im1 l1 ⟨ext, he⟩ loc1 I1 S1 (T1.mono (by intro d h; simp [dsts, h])) n1 s1
theorem Rest.mono {D E : List Nat} {Kc : Nat → Ex → LSt → Tr R} {As : Again} {σ : LSt} {a : Act} {w : World} {Q : QM} {Im : IM} {Qp : Exit → Act → World → Prop} (h : Rest P c Qf E Kc As σ a w Q Im Qp) (hs : ∀ d ∈ D, d ∈ E) : Rest P c Qf D Kc As σ a w Q Im Qp :=
  fun m e σ' As' a' w' Q' Im' g1 g2 g3 g4 g5 g6 g7 g8 => h m e σ' As' a' w' Q' Im' g1 g2 g3 g4 g5 (g6.mono hs) g7 g8
theorem sound_cond {t : Operand} {x y : Code} (hx : Sound P c Qf x) (hy : Sound P c Qf y) : Sound P c Qf (.cond t x y) := by
  intro n σ Kc As a w Q Im Qp hl hloc hI hd hs hQ
  simp only [ev] at hs
  have ht := hI.val t
  have yes : sat c.okp (ev c x n σ Kc) As Qf → a.eval t = .bool true → (Code.cond t x y).wp P Qp a w := fun h1 h2 =>
    wp_cond_true h2 (hx n σ Kc As a w Q Im Qp hl hloc hI (fun d h => hd d (by simp [dsts, h])) h1 (Rest.mono hQ (by intro d h; simp [dsts, h])))
  have no : sat c.okp (ev c y n σ Kc) As Qf → a.eval t = .bool false → (Code.cond t x y).wp P Qp a w := fun h1 h2 =>
    wp_cond_false h2 (hy n σ Kc As a w Q Im Qp hl hloc hI (fun d h => hd d (by simp [dsts, h])) h1 (Rest.mono hQ (by intro d h; simp [dsts, h])))
  split at hs
  · rename_i e; rw [e] at ht; simp only [DR] at ht; exact yes hs ht
  · rename_i e; rw [e] at ht; simp only [DR] at ht; exact no hs ht
  · rename_i b e
    rw [e] at ht; simp only [DR, VR] at ht
    simp only [sat] at hs
    cases b with
    | true => exact yes (hs.1 rfl) ht
    | false => exact no (hs.2 rfl) ht
  · simp [sat] at hs
theorem sound_block {id : Nat} {b : Code} (hb : Sound P c Qf b) : Sound P c Qf (.block id b) := by
  intro n σ Kc As a w Q Im Qp hl hloc hI hd hs hQ
  simp only [ev] at hs
  refine wp_block (hb n σ _ As a w Q Im _ hl hloc hI (fun d h => hd d (by simpa [dsts] using h)) hs ?_)
  intro m e σ1 As1 a1 w1 Q1 Im1 l1 he loc1 I1 S1 T1 n1 s1
  have T1' : TK (dsts (.block id b)) a a1 := T1.mono (by intro d h; simpa [dsts] using h)
  cases e with
  | normal => exact hQ m .normal σ1 As1 a1 w1 Q1 Im1 l1 he loc1 I1 S1 T1' n1 s1
  | exit k =>
    dsimp only at s1
    simp only [exOf, Exit.inBlock]
    split at s1
    · rename_i hk; rw [if_pos hk]; exact hQ m .normal σ1 As1 a1 w1 Q1 Im1 l1 he loc1 I1 S1 T1' n1 s1
    · rename_i hk; rw [if_neg hk]; exact hQ m (.exit k) σ1 As1 a1 w1 Q1 Im1 l1 he loc1 I1 S1 T1' n1 s1
  | ret => exact hQ m .ret σ1 As1 a1 w1 Q1 Im1 l1 he loc1 I1 S1 T1' n1 s1
def wpIn (P : Program) (b : Code) (Qp : Exit → Act → World → Prop) (a : Act) (w : World) : Prop :=
  ∀ (fr : Frame) (k : List Item) (cs : List Frame), ∃ e a' w', Qp e a' w' ∧ Arrives P (lone (fr.at a (.code b :: .inLoop b :: k)) cs w) fr k cs e a' w'
theorem wpIn_step {b : Code} {Qp : Exit → Act → World → Prop} {a : Act} {w : World} (h : b.wp P (Exit.then (wpIn P b Qp) Qp) a w) : wpIn P b Qp a w := by
  intro fr k cs
  obtain ⟨e, a₁, w₁, hq, harr⟩ := h fr (.inLoop b :: k) cs
  cases e with
  | normal =>
    obtain ⟨e₂, a₂, w₂, hq₂, harr₂⟩ := hq fr k cs
    exact ⟨e₂, a₂, w₂, hq₂, .of_steps (Steps.trans harr (.one step_inLoop)) harr₂⟩
  | exit id => exact ⟨_, a₁, w₁, hq, .pass (x := .inLoop b) rfl (fun _ _ => .inl (by simp)) harr⟩
  | goto l => exact ⟨_, a₁, w₁, hq, .pass (x := .inLoop b) rfl (fun _ _ => .inl (by simp)) harr⟩
  | ret => exact ⟨_, a₁, w₁, hq, .pass (x := .inLoop b) rfl (fun _ _ => .inl (by simp)) harr⟩
  | panic ch => exact ⟨_, a₁, w₁, hq, .pass (x := .inLoop b) rfl (fun _ _ => .inl (by simp)) harr⟩
  | outgrown => exact ⟨_, a₁, w₁, hq, .pass (x := .inLoop b) rfl (fun _ _ => .inl (by simp)) harr⟩
theorem wp_loop_in {b : Code} {Qp : Exit → Act → World → Prop} {a : Act} {w : World} (h : wpIn P b Qp a w) : (Code.loop b).wp P Qp a w := by
  intro fr k cs
  obtain ⟨e, a', w', hq, harr⟩ := h fr k cs
  exact ⟨e, a', w', hq, .of_steps (.one step_loop) harr⟩
end
end Go.Ev
