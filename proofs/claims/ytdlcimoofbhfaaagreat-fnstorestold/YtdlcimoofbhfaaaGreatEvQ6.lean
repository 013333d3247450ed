/- A part of the proof. -/
import Derived.Test.YtdlcimoofbhfaaaGreatEvQ5
set_option linter.all false
set_option linter.constructorNameAsVariable false
set_option linter.unusedVariables false
set_option linter.unusedSimpArgs false
namespace Go.Ev
section
variable {P : Program} {c : Ctx} {H : Hp} {Q : QM} {Im Im' : IM} {w w' : World} {val : Operand → D} {ρ : Operand → Value} {hpE : Heap} {nid : Nat} {o : Oper} {x : D × Dl}
theorem op_sim (hc : CtxOk P c) (hw : WR P H Q Im w) (hv : ∀ x, DR P w Im H.kd Q (val x) (ρ x)) (hsub : ∀ id h, hpE.find id = some h → H id = some h) (hf : Fr H val nid)
    (h : Reach c.okp (evOp c val hpE nid o.op) x) : Sim P H Q Im w ρ o nid x := by
  cases ho : o.op with
  | move y => rw [ho] at h; exact sim_move hw hv (.inl ho) (by simpa only [evOp] using h)
  | assign y => rw [ho] at h; exact sim_move hw hv (.inr ho) (by simpa only [evOp] using h)
  | pick t a b => rw [ho] at h; exact sim_pick hw hv ho h
  | alloc e => rw [ho] at h; exact sim_alloc hc hw hf ho h
  | box e y => rw [ho] at h; exact sim_box hc hw hv hf ho h
  | build t ps => rw [ho] at h; exact sim_build hc hw hv ho h
  | buildSlice t len ps => rw [ho] at h; exact sim_buildSlice hc hw hv hsub hf ho h
  | load t y => rw [ho] at h; exact sim_load hc hw hv hsub ho h
  | store t y z => rw [ho] at h; exact sim_store hc hw hv hsub hf ho h
  | nilCheck y => rw [ho] at h; exact sim_nilCheck hw hv hsub ho h
  | binOp op t y z s => rw [ho] at h; exact sim_bin hc hw hv ho h
  | unOp op t y =>
    rw [ho] at h
    cases op with
    | not => exact sim_not hw hv ho h
    | neg => exact sim_neg hw hv ho h
    | _ => simp only [evOp] at h; cases h
  | convert s t y => rw [ho] at h; exact sim_convert hc hw hv hsub hf ho h
  | makeFunc fn f cs =>
    rw [ho] at h
    cases fn with
    | func g => exact sim_makeFunc hw hv ho h
    | _ => simp only [evOp] at h; cases h
  | makeSlice t l m => rw [ho] at h; exact sim_makeSlice hc hw hv hf ho h
  | slice t y lo hi mx =>
    rw [ho] at h
    cases mx with
    | none => exact sim_slice hc hw hv hsub ho h
    | some _ => simp only [evOp] at h; cases h
  | fieldAddr t y f => rw [ho] at h; exact sim_fieldAddr hc hw hv hsub ho h
  | field t y f => rw [ho] at h; exact sim_field hc hw hv ho h
  | indexAddr t y z => rw [ho] at h; exact sim_indexAddr hc hw hv hsub ho h
  | index t y z => rw [ho] at h; exact sim_index hc hw hv ho h
  | extract y n => rw [ho] at h; exact sim_extract hw hv ho h
  | call cl =>
    rw [ho] at h
    cases hb : cl.callee with
    | builtin b =>
      cases b with
      | len => exact sim_len hc hw hv hsub ho hb h
      | append => exact sim_append hc hw hv hsub hf ho hb h
      | clear => exact sim_clear hc hw hv hsub hf ho hb h
      | min => exact sim_min hw hv ho hb h
      | max => exact sim_max hw hv ho hb h
      | _ => simp only [evOp, hb] at h; cases h
    | value f =>
      simp only [evOp, hb] at h
      split at h
      · rename_i g caps e
        have hfv := hv f
        rw [e] at hfv
        simp only [DR] at hfv
        obtain ⟨cs, hfv, hcs⟩ := hfv
        exact sim_call hc hw hsub hf ho hb hfv (DRL_append _ _ _ _ (mapD hv _) hcs) h
      · rename_i sh p e
        exact sim_callv hc hw hv hsub ho hb e h
      · cases h
    | invoke _ _ => simp only [evOp, hb] at h; cases h
  | _ => rw [ho] at h; simp only [evOp] at h; cases h
end
end Go.Ev
