/- A part of the proof. -/
import Derived.Test.YtdlcimoofbhfaaaGreatEvO6
import Derived.Laws.Strings
set_option linter.all false
set_option linter.constructorNameAsVariable false
set_option linter.unusedVariables false
set_option linter.unusedSimpArgs false
namespace Go.Ev
section
variable {P : Program} {c : Ctx} {H : Hp} {Q : QM} {Im : IM} {w : World} {val : Operand → D} {ρ : Operand → Value} {hpE : Heap} {nid : Nat} {o : Oper} {x : D × Dl}
def optV (v : Option Value) (n : Option Int) : Prop := match v, n with | none, none => True | some v, some n => ∃ k, v = .int k n | _, _ => False
theorem oI_val {K : Nat → Option Kd} (hv : ∀ x, DR P w Im K Q (val x) (ρ x)) {y : Option Operand} {n : Option Int} (h : oI val y = some n) : optV (y.map ρ) n := by
  cases y with
  | none => simp only [oI] at h; cases h; trivial
  | some y =>
    simp only [oI, Option.map_eq_some_iff] at h
    obtain ⟨m, h, rfl⟩ := h
    exact asI_val h (hv y)
def cutLo (lo : Option Int) : Nat := match lo with | some L => L.toNat | none => 0
def cutHi (hi : Option Int) (n : Nat) : Nat := match hi with | some L => L.toNat | none => n
theorem run_bounds {b : Bool} {len cap : Nat} {lv hv : Option Value} {lo hi : Option Int} (h1 : optV lv lo) (h2 : optV hv hi) (hle : len ≤ cap)
    (hlo : 0 ≤ lo.getD 0) (hhi : 0 ≤ hi.getD 0) (hh : cutLo lo ≤ cutHi hi len) (hc : cutHi hi len ≤ cap) :
    (Instr.sliceBounds b len cap lv hv none).run P w = .ok (cutLo lo, cutHi hi len, cap) w := by
  have sb : ∀ (k : IntKind) (i : Int) (y : Nat) (code : BoundsCode), 0 ≤ i → i.toNat ≤ y → (Instr.sliceBound (.int k i) y code).run P w = .ok i.toNat w := by
    intro k i y code h h'
    have : i ≤ (y : Int) := by omega
    simp [Instr.sliceBound, asIntOf, h, this]
  unfold Instr.sliceBounds
  cases lv with
  | none =>
    cases lo with
    | some _ => exact h1.elim
    | none =>
      cases hv with
      | none =>
        cases hi with
        | some _ => exact h2.elim
        | none => simp [cutLo, cutHi]
      | some v =>
        cases hi with
        | none => exact h2.elim
        | some n =>
          obtain ⟨k, rfl⟩ := h2
          simp only [cutHi, Option.getD_some] at *
          simp [cutLo, sb k n cap _ hhi hc]
  | some u =>
    cases lo with
    | none => exact h1.elim
    | some m =>
      obtain ⟨k, rfl⟩ := h1
      simp only [cutLo, Option.getD_some] at *
      cases hv with
      | none =>
        cases hi with
        | some _ => exact h2.elim
        | none =>
          simp only [cutHi] at *
          simp [sb k m len _ hlo hh]
      | some v =>
        cases hi with
        | none => exact h2.elim
        | some n =>
          obtain ⟨k', rfl⟩ := h2
          simp only [cutHi, Option.getD_some] at *
          simp [sb k' n cap _ hhi hc, sb k m n.toNat _ hlo hh]
theorem reach_cut {okp} {lo hi : Option Int} {n : Nat} {K : Int → Int → OT} (h : Reach okp (cutEv lo hi n K) x) :
    0 ≤ lo.getD 0 ∧ 0 ≤ hi.getD 0 ∧ cutLo lo ≤ cutHi hi n ∧ cutHi hi n ≤ n ∧ ∃ L H, L.toNat = cutLo lo ∧ H.toNat = cutHi hi n ∧ Reach okp (K L H) x := by
  unfold cutEv at h
  split at h
  · refine ⟨by simp, by simp, by simp [cutLo], by simp [cutHi], _, _, ?_, ?_, h⟩ <;> simp [cutLo, cutHi]
  · cases h with
    | req hb h => exact ⟨by simpa using hb.1, by simp, by simp only [cutLo, cutHi]; omega, by simp [cutHi], _, _, rfl, by simp [cutHi], h⟩
  · cases h with
    | req hb h => exact ⟨by simp, by simpa using hb.1, by simp [cutLo], by simp only [cutHi]; omega, _, _, by simp [cutLo], rfl, h⟩
  · cases h with
    | req hb h => exact ⟨by simpa using hb.1, by simp only [Option.getD_some]; omega, by simp only [cutLo, cutHi]; omega, by simp only [cutHi]; omega, _, _, rfl, rfl, h⟩
theorem cutL_eq {α : Type} (lo hi : Option Int) (l : List α) : cutL lo hi l = (l.take (cutHi hi l.length)).drop (cutLo lo) := by
  unfold cutL
  cases lo <;> cases hi <;> simp [cutLo, cutHi]
theorem sim_slice (hc : CtxOk P c) (hw : WR P H Q Im w) (hv : ∀ x, DR P w Im H.kd Q (val x) (ρ x)) (hsub : ∀ id h, hpE.find id = some h → H id = some h) {t : TypeId} {y : Operand} {lo hi : Option Operand} (ho : o.op = .slice t y lo hi none)
    (h : Reach c.okp (evOp c val hpE nid (.slice t y lo hi none)) x) : Sim P H Q Im w ρ o nid x := by
  have hy := hv y
  simp only [evOp] at h
  obtain ⟨L, hL, h⟩ := reach_ofO h
  obtain ⟨M, hM, h⟩ := reach_ofO h
  have oL := oI_val hv hL
  have oM := oI_val hv hM
  have hrun : ∀ (rs' : List Sh) (a : Option Addr) (len cap : Nat), (c.Θ t).one = [.sl rs'] → ρ y = .slice a len cap → len ≤ cap → 0 ≤ L.getD 0 → 0 ≤ M.getD 0 → cutLo L ≤ cutHi M len → cutHi M len ≤ len →
      (execOp ρ o).run P w = .ok (.value (.slice (if cap = cutLo L then a else a.map (·.add (cutLo L * rs'.length))) (cutHi M len - cutLo L) (cap - cutLo L))) w := by
    intro rs' a len cap h1 e h2 h3 h4 h5 h6
    obtain ⟨d, hd, _, e', hsd, hel⟩ := ti_one (hc.ti t) h1
    subst hsd
    have hb := run_bounds (P := P) (w := w) (b := true) oL oM h2 h3 h4 h5 (by omega)
    simp only [execOp, ho, e, Instr.sliceAt, Instr.slice, Sem.run_bind, Sem.run_pure, Result.andThen_ok, run_underlying hd, Option.map_none, hb, elem_size hel]
  unfold sliceEv at h
  split at h
  · rename_i s h1 e
    obtain ⟨h3, h4, h5, h6, L', M', h7, h8, h⟩ := reach_cut h
    obtain ⟨d, hd, _, hsd⟩ := ti_one (hc.ti t) h1
    simp only [shDesc] at hsd; subst hsd
    rw [e] at hy; simp only [DR, VR] at hy
    obtain ⟨s', hy, rfl⟩ := hy
    rw [reach_just h]
    have e1 : s'.data.toList.length = s'.size := Array.length_toList
    have hb := run_bounds (P := P) (w := w) (b := false) oL oM (Nat.le_refl s'.size) h3 h4 (by rw [← e1]; exact h5) (by rw [← e1]; exact h6)
    refine sim_value (u := .string (s'.extract (cutLo L) (cutHi M s'.size))) (w' := w) hw ?_ rfl ?_
    · simp only [execOp, ho, hy, Instr.sliceAt, Instr.slice, Sem.run_bind, Sem.run_pure, Result.andThen_ok, run_underlying hd, Option.map_none, hb, Option.isSome_none, Bool.false_eq_true, if_false]
    · simp only [DR, VR]
      refine ⟨_, rfl, ?_⟩
      rw [cutL_eq, e1]
      rw [ByteArray.data_extract, Array.toList_extract, List.extract_eq_take_drop, List.drop_take]
  · rename_i rs' rs l h1 e
    split at h
    · rename_i hlen
      obtain ⟨h3, h4, h5, h6, L', M', h7, h8, h⟩ := reach_cut h
      rw [e] at hy; simp only [DR, VR] at hy
      obtain ⟨a, cap, hy', hcap, hrow⟩ := hy
      have hl : (cutL L M l).length = cutHi M l.length - cutLo L := by rw [cutL_eq, List.length_drop, List.length_take]; omega
      rw [reach_just h]
      refine sim_value (w' := w) hw (hrun rs' a _ cap h1 hy' hcap h3 h4 h5 h6) rfl ?_
      simp only [DR, VR]
      refine ⟨_, _, by rw [hl], by rw [hl]; omega, fun hn => ?_⟩
      have h9 : 0 < (cutL L M l).length := List.length_pos_iff.2 hn
      obtain ⟨b, o', rfl, hI, hrow⟩ := hrow (by rintro rfl; rw [cutL_eq] at hn; simp at hn)
      refine ⟨b, o' + cutLo L * rs.length, ?_, hI, fun i r hr => ?_⟩
      · rw [if_neg (by omega), Option.map_some, add_none, hlen]
      · rw [cutL_eq, List.getElem?_drop, List.getElem?_take] at hr
        split at hr
        · obtain ⟨vs, q1, q2⟩ := hrow _ _ hr
          refine ⟨vs, q1, ?_⟩
          have : o' + cutLo L * rs.length + i * rs.length = o' + (cutLo L + i) * rs.length := by rw [Nat.add_mul, Nat.add_assoc]
          rw [this]; exact q2
        · cases hr
    · cases h
  · rename_i rs' id h1 e
    split at h
    · rename_i i r rs l hf
      split at h
      · rename_i hlen
        obtain ⟨h3, h4, h5, h6, L', M', h7, h8, h⟩ := reach_cut h
        rw [e] at hy; simp only [DR] at hy
        have hk : H.kd id = some (.buf rs.length l.length) := by rw [find_kd hsub hf]; rfl
        rw [reach_just h, h7, h8]
        rcases hy.2 _ _ hk with ⟨hq, h0, hy'⟩ | ⟨b, o', cap, hq, hy', hcap, hsz⟩
        · refine sim_value (w' := w) hw (hrun rs' none 0 0 h1 hy' (Nat.le_refl _) h3 h4 (by rw [← h0]; exact h5) (by rw [← h0]; exact h6)) rfl ?_
          simp only [DR]
          refine ⟨rfl, fun n' len' hk' => ?_⟩
          rw [hk] at hk'; cases hk'
          refine ⟨h5, h6, .inl ⟨hq, h0, ?_⟩⟩
          rw [h0] at h6
          rw [h0] at h5
          rw [show cutHi M 0 - cutLo L = 0 by omega]
          simp
        · refine sim_value (w' := w) hw (hrun rs' _ _ cap h1 hy' hcap h3 h4 h5 h6) rfl ?_
          simp only [DR]
          refine ⟨rfl, fun n' len' hk' => ?_⟩
          rw [hk] at hk'; cases hk'
          refine ⟨h5, h6, .inr ⟨b, o', cap - cutLo L, hq, by omega, by rw [show cutLo L + (cap - cutLo L) = cap by omega]; exact hsz, ?_⟩⟩
          split
          · rename_i h9
            right
            refine ⟨by omega, by omega, ?_⟩
            rw [show cutHi M l.length - cutLo L = 0 by omega, show cap - cutLo L = 0 by omega]
          · left
            rw [Option.map_some, add_none, hlen]
      · cases h
    · cases h
  · cases h
end
end Go.Ev
