/- A part of the proof. -/
import Derived.Test.YtdlcimoofbhfaaaGreatEvO5
set_option linter.all false
set_option linter.constructorNameAsVariable false
set_option linter.unusedVariables false
set_option linter.unusedSimpArgs false
namespace Go.Ev
theorem run_isAgg {P : Program} {w : World} {t : TypeId} {d : TypeDesc} (h : P.underlying t = some d) : (isAgg t).run P w = .ok (isAggD d) w := by
  unfold isAgg
  simp only [Sem.run_bind, run_underlying h, Result.andThen_ok]
  cases d <;> rfl
theorem ti_field {P : Program} {t : TypeId} {ti : TI} (h : TiOk P t ti) {f off n : Nat} {ag : Bool} (hf : ti.fs[f]? = some (off, n, ag)) :
    ∃ fs fd i d, P.underlying t = some (.struct fs) ∧ fs[f]? = some fd ∧ fd.offset = off ∧ P.info? fd.type = some i ∧ P.underlying fd.type = some d ∧ i.size = n ∧ 0 < n ∧ off + n ≤ ti.cs.length ∧ isAggD d = ag := by
  rcases h with h0 | ⟨_, h⟩
  · rw [h0.2.2.1] at hf; simp at hf
  · cases h.desc with
    | agg fs h1 h2 h3 _ _ =>
      obtain ⟨fd, i, d, h⟩ := h3 f off n ag hf
      exact ⟨fs, fd, i, d, h2.1, h⟩
    | one sh d h1 _ h2 => rw [h2] at hf; simp at hf
theorem unl_part {cs : List Value} {off n : Nat} {ag : Bool} {u : Value} (hle : off + n ≤ cs.length) (hu : unl ag ((cs.drop off).take n) = some u) :
    (ag = true → u = .agg (cs.toArray.extract off (off + n))) ∧ (ag = false → cs[off]? = some u) := by
  unfold unl at hu
  constructor
  · intro ha
    subst ha
    simp only [if_true] at hu
    cases hu
    congr 1
    apply Array.ext'
    simp [List.extract_eq_take_drop]
  · intro ha
    subst ha
    simp only [Bool.false_eq_true, if_false] at hu
    have hl : ∃ v, (cs.drop off).take n = [v] := by
      generalize (cs.drop off).take n = l at hu
      match l, hu with
      | [v], _ => exact ⟨v, rfl⟩
    obtain ⟨v, e⟩ := hl
    rw [e] at hu
    cases hu
    have : ((cs.drop off).take n)[0]? = some u := by rw [e]; rfl
    rw [List.getElem?_take] at this
    split at this
    · rw [List.getElem?_drop] at this; simpa using this
    · cases this
section
variable {P : Program} {c : Ctx} {H : Hp} {Q : QM} {Im : IM} {w : World} {val : Operand → D} {ρ : Operand → Value} {hpE : Heap} {nid : Nat} {o : Oper} {x : D × Dl}
theorem sim_field (hc : CtxOk P c) (hw : WR P H Q Im w) (hv : ∀ x, DR P w Im H.kd Q (val x) (ρ x)) {t : TypeId} {y : Operand} {f : Nat} (ho : o.op = .field t y f)
    (h : Reach c.okp (evOp c val hpE nid (.field t y f)) x) : Sim P H Q Im w ρ o nid x := by
  have hy := hv y
  simp only [evOp] at h
  obtain ⟨⟨fo, n, ag⟩, hf, h⟩ := reach_ofO h
  obtain ⟨fs, fd, i, d, h1, h2, h3, h4, h5, h6, h7, h8, h9⟩ := ti_field (hc.ti t) hf
  split at h
  · rename_i cs e
    split at h
    · rename_i hle
      obtain ⟨dd, hd, h⟩ := reach_ofO h
      rw [e] at hy; simp only [DR] at hy
      obtain ⟨us, hy, hus⟩ := hy
      rw [dtk_eq, ddr_eq] at hd
      obtain ⟨u, hu1, hu2⟩ := unleaf_unl hd (DRL_take n _ _ (DRL_drop fo cs us hus))
      have hl := DRL_length _ _ hus
      dsimp only at hle
      obtain ⟨p1, p2⟩ := unl_part (by omega) hu1
      rw [reach_just h]
      refine sim_value (u := u) (w' := w) hw ?_ rfl hu2
      subst h3
      cases ag with
      | true =>
        have := p1 rfl
        subst this
        simp [execOp, ho, hy, Instr.field, run_underlying h1, h2, asAgg, part, run_isAgg h5, h9, run_sizeOf' h4, h6]
      | false =>
        have := p2 rfl
        simp [execOp, ho, hy, Instr.field, run_underlying h1, h2, asAgg, part, run_isAgg h5, h9, this]
    · cases h
  · cases h
theorem sim_fieldAddr (hc : CtxOk P c) (hw : WR P H Q Im w) (hv : ∀ x, DR P w Im H.kd Q (val x) (ρ x)) (hsub : ∀ id h, hpE.find id = some h → H id = some h) {t : TypeId} {y : Operand} {f : Nat} (ho : o.op = .fieldAddr t y f)
    (h : Reach c.okp (evOp c val hpE nid (.fieldAddr t y f)) x) : Sim P H Q Im w ρ o nid x := by
  have hy := hv y
  simp only [evOp] at h
  obtain ⟨⟨fo, n, ag⟩, hf, h⟩ := reach_ofO h
  obtain ⟨fs, fd, i, d, h1, h2, h3, h4, h5, h6, h7, h8, h9⟩ := ti_field (hc.ti t) hf
  have hrun : ∀ (b o' : Nat), ρ y = .pointer (some ⟨b, o', none⟩) → (execOp ρ o).run P w = .ok (.value (.pointer (some ⟨b, o' + fo, none⟩))) w := by
    intro b o' e
    have hne : ¬ i.size = 0 := by omega
    simp [execOp, ho, e, Instr.fieldAt, run_underlying h1, h2, Instr.sureAddr, fieldPlace, run_sizeOf' h4, hne, h3, add_none]
  unfold fieldEv at h
  split at h
  · rename_i id off e
    split at h
    · rename_i i r cs hfd
      rw [e] at hy; simp only [DR] at hy
      obtain ⟨b, hq, hy'⟩ := hy.2 (by rw [find_kd hsub hfd]; rfl)
      rw [reach_just h]
      refine sim_value (w' := w) hw (hrun _ _ hy') rfl ?_
      simp only [DR]
      exact ⟨rfl, fun _ => ⟨b, hq, rfl⟩⟩
    · cases h
  · rename_i id row off e
    split at h
    · rename_i i r rs l hfd
      rw [e] at hy; simp only [DR] at hy
      have hk : H.kd id = some (.buf rs.length l.length) := by rw [find_kd hsub hfd]; rfl
      obtain ⟨b, o', hq, h10, h11, hy'⟩ := hy.2 _ _ hk
      rw [reach_just h]
      refine sim_value (w' := w) hw (hrun _ _ hy') rfl ?_
      simp only [DR]
      refine ⟨rfl, fun n' len' hk' => ?_⟩
      rw [hk] at hk'; cases hk'
      exact ⟨b, o', hq, h10, h11, by rw [Nat.add_assoc]⟩
    · cases h
  · rename_i rs r off e
    rw [e] at hy; simp only [DR] at hy
    obtain ⟨b, o', vs, hy', hI, hcr, hcell⟩ := hy
    rw [reach_just h]
    refine sim_value (w' := w) hw (hrun _ _ hy') rfl ?_
    simp only [DR]
    exact ⟨b, o', vs, by rw [Nat.add_assoc], hI, hcr, hcell⟩
  · rename_i rs r e
    rw [e] at hy; simp only [DR, VR] at hy
    obtain ⟨b, o', vs, hy', hI, hcr, hcell⟩ := hy
    rw [reach_just h]
    refine sim_value (w' := w) hw (hrun _ _ hy') rfl ?_
    simp only [DR]
    exact ⟨b, o', vs, rfl, hI, hcr, hcell⟩
  · cases h
theorem elem_size {e : TypeId} {rs : List Sh} (h : ElemOk P e rs) : (sizeOf e).run P w = .ok rs.length w := by
  obtain ⟨i, z, h1, h2, _⟩ := h.info
  rw [run_sizeOf' h1, h2]
theorem sim_indexAddr (hc : CtxOk P c) (hw : WR P H Q Im w) (hv : ∀ x, DR P w Im H.kd Q (val x) (ρ x)) (hsub : ∀ id h, hpE.find id = some h → H id = some h) {t : TypeId} {y z : Operand} (ho : o.op = .indexAddr t y z)
    (h : Reach c.okp (evOp c val hpE nid (.indexAddr t y z)) x) : Sim P H Q Im w ρ o nid x := by
  have hy := hv y
  have hz := hv z
  simp only [evOp] at h
  obtain ⟨n, hn, h⟩ := reach_ofO h
  obtain ⟨k, hz⟩ := asI_val hn hz
  have hrun : ∀ (rs' : List Sh) (b o' len cap : Nat), (c.Θ t).one = [.sl rs'] → ρ y = .slice (some ⟨b, o', none⟩) len cap → 0 ≤ n → n < (len : Int) →
      (execOp ρ o).run P w = .ok (.value (.pointer (some ⟨b, o' + n.toNat * rs'.length, none⟩))) w := by
    intro rs' b o' len cap h1 e h2 h3
    obtain ⟨d, hd, _, e', hsd, hel⟩ := ti_one (hc.ti t) h1
    subst hsd
    simp [execOp, ho, e, hz, Instr.indexAt, asIntOf, run_underlying hd, h2, h3, elem_size hel, add_none]
  unfold indexEv at h
  split at h
  · rename_i rs' rs l h1 e
    split at h
    · rename_i hlen
      cases h with
      | idx h0 hget h =>
        rename_i r
        rw [e] at hy; simp only [DR, VR] at hy
        obtain ⟨a, cap, hy', _, hrow⟩ := hy
        have hlt : n.toNat < l.length := by
          rcases Nat.lt_or_ge n.toNat l.length with h9 | h9
          · exact h9
          · rw [List.getElem?_eq_none h9] at hget; cases hget
        have hne : l ≠ [] := by rintro rfl; simp at hlt
        obtain ⟨b, o', rfl, hI, hrow⟩ := hrow hne
        obtain ⟨vs, hcr, hcell⟩ := hrow _ _ hget
        rw [reach_just h]
        refine sim_value (w' := w) hw (hrun rs' b o' _ cap h1 hy' h0 (by omega)) rfl ?_
        simp only [DR]
        exact ⟨b, o' + n.toNat * rs.length, vs, by rw [hlen]; rfl, hI, hcr, hcell⟩
    · cases h
  · rename_i rs' id h1 e
    split at h
    · rename_i i r rs l hf
      split at h
      · rename_i hlen
        cases h with
        | req hb h =>
          rw [e] at hy; simp only [DR] at hy
          have hk : H.kd id = some (.buf rs.length l.length) := by rw [find_kd hsub hf]; rfl
          rcases hy.2 _ _ hk with ⟨_, h0, _⟩ | ⟨b, o', cap, hq, hy', _⟩
          · omega
          · rw [reach_just h]
            refine sim_value (w' := w) hw (hrun rs' b o' _ cap h1 hy' hb.1 hb.2) rfl ?_
            simp only [DR]
            refine ⟨rfl, fun n' len' hk' => ?_⟩
            rw [hk] at hk'; cases hk'
            exact ⟨b, o', hq, hb.1, hb.2, by rw [hlen]; rfl⟩
      · cases h
    · cases h
  · rename_i rs' id lo hi h1 e
    split at h
    · rename_i i r rs l hf
      split at h
      · rename_i hlen
        cases h with
        | req hb h =>
          rw [e] at hy; simp only [DR] at hy
          have hk : H.kd id = some (.buf rs.length l.length) := by rw [find_kd hsub hf]; rfl
          obtain ⟨g1, g2, g3⟩ := hy.2 _ _ hk
          rcases g3 with ⟨_, h0, _⟩ | ⟨b, o', cap, hq, _, _, hy' | ⟨g4, _⟩⟩
          · omega
          · rw [reach_just h]
            refine sim_value (w' := w) hw (hrun rs' b _ _ cap h1 hy' hb.1 hb.2) rfl ?_
            simp only [DR]
            refine ⟨rfl, fun n' len' hk' => ?_⟩
            rw [hk] at hk'; cases hk'
            refine ⟨b, o', hq, by omega, by omega, ?_⟩
            have : ((lo : Int) + n).toNat = lo + n.toNat := by omega
            rw [this, hlen, Nat.add_mul]
            simp [Nat.add_assoc]
          · omega
      · cases h
    · cases h
  · cases h
end
end Go.Ev
