/- A part of the proof. -/
import Derived.Test.YtdlcimoofbhfaaaGreatEvO4
set_option linter.all false
set_option linter.constructorNameAsVariable false
set_option linter.unusedVariables false
set_option linter.unusedSimpArgs false
namespace Go.Ev
theorem dtk_eq : ∀ (n : Nat) (l : List D), dtk n l = l.take n
  | 0, l => by simp [dtk]
  | n + 1, [] => by simp [dtk]
  | n + 1, d :: r => by simp [dtk, dtk_eq n r]
theorem ddr_eq : ∀ (n : Nat) (l : List D), ddr n l = l.drop n
  | 0, l => by simp [ddr]
  | n + 1, [] => by simp [ddr]
  | n + 1, d :: r => by simp [ddr, ddr_eq n r]
theorem add_none (b o n : Nat) : Addr.add ⟨b, o, none⟩ n = ⟨b, o + n, none⟩ := by
  unfold Addr.add; split
  · rename_i h; subst h; rfl
  · rfl
section
variable {P : Program} {c : Ctx} {H : Hp} {Q : QM} {Im : IM} {w : World} {val : Operand → D} {ρ : Operand → Value} {hpE : Heap} {nid : Nat} {o : Oper} {x : D × Dl}
theorem DRL_take {K : Nat → Option Kd} : ∀ (n : Nat) (ds : List D) (us : List Value), DRL P w Im K Q ds us → DRL P w Im K Q (ds.take n) (us.take n)
  | 0, ds, us, h => by simp [DRL]
  | n + 1, [], us, h => by simp only [DRL] at h; subst h; simp [DRL]
  | n + 1, d :: r, us, h => by
    simp only [DRL] at h
    obtain ⟨u, us', rfl, h1, h2⟩ := h
    simp only [List.take_succ_cons, DRL]
    exact ⟨u, _, rfl, h1, DRL_take n r us' h2⟩
theorem DRL_drop {K : Nat → Option Kd} : ∀ (n : Nat) (ds : List D) (us : List Value), DRL P w Im K Q ds us → DRL P w Im K Q (ds.drop n) (us.drop n)
  | 0, ds, us, h => by simpa using h
  | n + 1, [], us, h => by simp only [DRL] at h; subst h; simp [DRL]
  | n + 1, d :: r, us, h => by
    simp only [DRL] at h
    obtain ⟨u, us', rfl, h1, h2⟩ := h
    simpa using DRL_drop n r us' h2
theorem DRL_append {K : Nat → Option Kd} : ∀ (ds es : List D) (us vs : List Value), DRL P w Im K Q ds us → DRL P w Im K Q es vs → DRL P w Im K Q (ds ++ es) (us ++ vs)
  | [], es, us, vs, h, h' => by simp only [DRL] at h; subst h; simpa using h'
  | d :: r, es, us, vs, h, h' => by
    simp only [DRL] at h
    obtain ⟨u, us', rfl, h1, h2⟩ := h
    simp only [List.cons_append, DRL]
    exact ⟨u, _, rfl, h1, DRL_append r es us' vs h2 h'⟩
theorem DRL_cells {K : Nat → Option Kd} : ∀ (rs : List Sh) (x : tyL rs) (us : List Value), CR P rs x w Im us → DRL P w Im K Q (cellsD rs x) us
  | [], x, us, h => by simp only [CR] at h; simp only [cellsD, DRL]; exact h
  | [a], x, us, h => by
    simp only [CR] at h
    obtain ⟨v, rfl, h1⟩ := h
    simp only [cellsD, DRL]
    exact ⟨v, [], rfl, by simpa only [DR] using h1, rfl⟩
  | a :: c :: r, x, us, h => by
    simp only [CR] at h
    obtain ⟨v, vs, rfl, h1, h2⟩ := h
    simp only [cellsD]
    rw [DRL]
    exact ⟨v, vs, rfl, by simpa only [DR] using h1, DRL_cells (c :: r) x.2 vs h2⟩
def unl (ag : Bool) (us : List Value) : Option Value := if ag then some (.agg us.toArray) else match us with | [u] => some u | _ => none
theorem unleaf_unl {K : Nat → Option Kd} {ag : Bool} {ds : List D} {d : D} {us : List Value} (h : unleaf ag ds = some d) (hd : DRL P w Im K Q ds us) : ∃ u, unl ag us = some u ∧ DR P w Im K Q d u := by
  unfold unleaf at h
  unfold unl
  split at h
  · rename_i ha
    cases h
    exact ⟨.agg us.toArray, by simp [ha], by simp only [DR]; exact ⟨us, rfl, hd⟩⟩
  · rename_i ha
    split at h
    · cases h
      simp only [DRL] at hd
      obtain ⟨u, us', rfl, h1, rfl⟩ := hd
      exact ⟨u, by simp [ha], h1⟩
    · cases h
theorem ti_size {t : TypeId} {ti : TI} (h : TiOk P t ti) (hp : 0 < ti.cs.length) : ∃ i, P.info? t = some i ∧ i.size = ti.cs.length := by
  rcases h with h0 | ⟨_, hf⟩
  · rw [h0.1] at hp; simp at hp
  · obtain ⟨i, z, h1, h2, _⟩ := hf.info
    exact ⟨i, h1, h2⟩
theorem run_typeInfo' {t : TypeId} {i : TypeInfo} (h : P.info? t = some i) : (typeInfo t).run P w = .ok i w := by
  simp [typeInfo, h]
theorem run_sizeOf' {t : TypeId} {i : TypeInfo} (h : P.info? t = some i) : (sizeOf t).run P w = .ok i.size w := by
  simp [sizeOf, typeInfo, h]
theorem ti_agg {t : TypeId} {ti : TI} (h : TiOk P t ti) (hp : 0 < ti.cs.length) : (isAgg t).run P w = .ok ti.ag w ∧ (ti.ag = false → ti.cs.length = 1) := by
  rcases h with h0 | ⟨_, hf⟩
  · rw [h0.1] at hp; simp at hp
  · cases hf.desc with
    | agg fs h1 h2 => exact ⟨by simp [isAgg, run_underlying h2.1, h1], fun h => by rw [h1] at h; cases h⟩
    | one sh d h1 _ _ h2 h3 h4 _ =>
      refine ⟨?_, fun _ => by rw [h2]; rfl⟩
      rw [h1]
      unfold isAgg
      simp only [Sem.run_bind, run_underlying h3, Result.andThen_ok]
      cases d <;> first | rfl | (simp [isAggD] at h4)
theorem run_loadVar_ti {t : TypeId} {ti : TI} (h : TiOk P t ti) {b o : Nat} {us : List Value} {u : Value} (hl : us.length = ti.cs.length) (hc : cellsAt w b o us) (hu : unl ti.ag us = some u) :
    (loadVar t ⟨b, o, none⟩).run P w = .ok u w := by
  have hp : 0 < ti.cs.length := by
    rcases h with h0 | ⟨h0, _⟩
    · rw [h0.1] at hl
      have : us = [] := List.length_eq_zero_iff.1 hl
      subst this
      simp [unl, h0.2.1] at hu
    · exact h0
  obtain ⟨i, hi1, hi2⟩ := ti_size h hp
  obtain ⟨ha1, ha2⟩ := ti_agg (w := w) h hp
  unfold loadVar
  simp only [Sem.run_bind, ha1, Result.andThen_ok]
  unfold unl at hu
  cases hag : ti.ag with
  | true =>
    rw [hag] at hu
    simp only [if_true] at hu
    cases hu
    have := run_loadCells_list (P := P) w ⟨b, o, none⟩ us (fun j v hj => by rw [add_none]; exact hc j v hj)
    simp only [if_true, Sem.run_bind, run_sizeOf' hi1, Result.andThen_ok, hi2, ← hl, this, Sem.run_pure]
  | false =>
    rw [hag] at hu
    simp only [Bool.false_eq_true, if_false] at hu
    split at hu
    · cases hu
      have := hc 0 u rfl
      simp only [Nat.add_zero] at this
      simp only [Bool.false_eq_true, if_false, run_load, this]
    · cases hu
theorem cells_drop {w : World} {b o k n : Nat} {us : List Value} (h : cellsAt w b o us) : cellsAt w b (o + k) ((us.drop k).take n) := by
  intro j u hj
  rw [List.getElem?_take] at hj
  split at hj
  · rw [List.getElem?_drop] at hj
    have := h (k + j) u hj
    rwa [← Nat.add_assoc] at this
  · cases hj
theorem load_cells (hc : CtxOk P c) (hw : WR P H Q Im w) {t : TypeId} {y : Operand} (ho : o.op = .load t y) {b o' k : Nat} (hy : ρ y = .pointer (some ⟨b, o' + k, none⟩)) {ds : List D} {us : List Value}
    (hd : DRL P w Im H.kd Q ds us) (hcell : cellsAt w b o' us) (hle : k + (c.Θ t).cs.length ≤ ds.length) {d : D} (hu : unleaf (c.Θ t).ag (dtk (c.Θ t).cs.length (ddr k ds)) = some d) (hx : x = (d, {})) :
    Sim P H Q Im w ρ o nid x := by
  rw [dtk_eq, ddr_eq] at hu
  have h1 := DRL_take (c.Θ t).cs.length _ _ (DRL_drop k ds us hd)
  obtain ⟨u, h2, h3⟩ := unleaf_unl hu h1
  have hl := DRL_length ds us hd
  have hlen : ((us.drop k).take (c.Θ t).cs.length).length = (c.Θ t).cs.length := by
    rw [List.length_take, List.length_drop]; omega
  rw [hx]
  refine sim_value (u := u) (w' := w) hw ?_ rfl h3
  have := run_loadVar_ti (hc.ti t) hlen (cells_drop (k := k) (n := (c.Θ t).cs.length) hcell) h2
  simp [execOp, ho, hy, Instr.loadAt, Instr.sureAddr, this]
theorem sim_load (hc : CtxOk P c) (hw : WR P H Q Im w) (hv : ∀ x, DR P w Im H.kd Q (val x) (ρ x)) (hsub : ∀ id h, hpE.find id = some h → H id = some h) {t : TypeId} {y : Operand} (ho : o.op = .load t y)
    (h : Reach c.okp (evOp c val hpE nid (.load t y)) x) : Sim P H Q Im w ρ o nid x := by
  have hy := hv y
  simp only [evOp] at h
  unfold loadEv at h
  split at h
  · rename_i id off e
    split at h
    · rename_i i r cs hf
      split at h
      · rename_i hle
        obtain ⟨d, hd, h⟩ := reach_ofO h
        rw [e] at hy; simp only [DR] at hy
        obtain ⟨b, hq, hy⟩ := hy.2 (by rw [find_kd hsub hf]; rfl)
        obtain ⟨b', us, e', fz, hq', hb, hfz, hus⟩ := find_ob hw hsub hf
        rw [hq] at hq'; cases hq'
        exact load_cells hc hw ho (o' := 0) (k := off) (by simpa using hy) hus (cellsAt_of hb (fun j u hj => by simpa using hj)) hle hd (reach_just h)
      · cases h
    · cases h
  · rename_i rs z e
    split at h
    · rename_i hle
      obtain ⟨d, hd, h⟩ := reach_ofO h
      rw [e] at hy; simp only [DR, VR] at hy
      obtain ⟨b, o', vs, hy, hI, hcr, hcell⟩ := hy
      have hl := CR_length rs z hcr
      have hdr := DRL_cells (Q := Q) (K := H.kd) rs z vs hcr
      have hl2 := DRL_length _ _ hdr
      exact load_cells hc hw ho (o' := o') (k := 0) (by simpa using hy) hdr hcell (by omega) (by simpa [ddr] using hd) (reach_just h)
    · cases h
  · rename_i rs z off e
    split at h
    · rename_i hle
      obtain ⟨d, hd, h⟩ := reach_ofO h
      rw [e] at hy; simp only [DR] at hy
      obtain ⟨b, o', vs, hy, hI, hcr, hcell⟩ := hy
      have hl := CR_length rs z hcr
      have hdr := DRL_cells (Q := Q) (K := H.kd) rs z vs hcr
      have hl2 := DRL_length _ _ hdr
      exact load_cells hc hw ho (o' := o') (k := off) hy hdr hcell (by omega) hd (reach_just h)
    · cases h
  · rename_i id row off e
    split at h
    · rename_i i r rs l hf
      split at h
      · rename_i hle
        cases h with
        | idx h0 hget h =>
          rename_i r'
          obtain ⟨d, hd, h⟩ := reach_ofO h
          rw [e] at hy; simp only [DR] at hy
          obtain ⟨b, o', hq, _, _, hy⟩ := hy.2 _ _ (by rw [find_kd hsub hf]; rfl)
          rcases find_ob hw hsub hf with ⟨hq', _⟩ | ⟨b', o'', cs, e', fz, hq', hb, hfz, hsz, hrow⟩
          · rw [hq] at hq'; cases hq'
          · rw [hq] at hq'; cases hq'
            obtain ⟨vs, hcr, hcs⟩ := hrow row.toNat r' hget
            have hl := CR_length rs r' hcr
            have hdr := DRL_cells (Q := Q) (K := H.kd) rs r' vs hcr
            have hl2 := DRL_length _ _ hdr
            exact load_cells hc hw ho (o' := o' + row.toNat * rs.length) (k := off) hy hdr (cellsAt_of hb hcs) (by omega) hd (reach_just h)
      · cases h
    · cases h
  · cases h
theorem load_cells' (hc : CtxOk P c) (hw : WR P H Q Im w) {t : TypeId} {uy : Value} {b o' k : Nat} (hy : uy = .pointer (some ⟨b, o' + k, none⟩)) {ds : List D} {us : List Value}
    (hd : DRL P w Im H.kd Q ds us) (hcell : cellsAt w b o' us) (hle : k + (c.Θ t).cs.length ≤ ds.length) {d : D} (hu : unleaf (c.Θ t).ag (dtk (c.Θ t).cs.length (ddr k ds)) = some d) (hx : x = (d, {})) :
    ∃ addr u, uy = .pointer (some addr) ∧ (loadVar t addr).run P w = .ok u w ∧ DR P w Im H.kd Q x.1 u := by
  rw [dtk_eq, ddr_eq] at hu
  have h1 := DRL_take (c.Θ t).cs.length _ _ (DRL_drop k ds us hd)
  obtain ⟨u, h2, h3⟩ := unleaf_unl hu h1
  have hl := DRL_length ds us hd
  have hlen : ((us.drop k).take (c.Θ t).cs.length).length = (c.Θ t).cs.length := by
    rw [List.length_take, List.length_drop]; omega
  rw [hx]
  exact ⟨_, u, hy, run_loadVar_ti (hc.ti t) hlen (cells_drop (k := k) (n := (c.Θ t).cs.length) hcell) h2, h3⟩
theorem load_run (hc : CtxOk P c) (hw : WR P H Q Im w) (hsub : ∀ id h, hpE.find id = some h → H id = some h) {t : TypeId} {dy : D} {uy : Value} (hy : DR P w Im H.kd Q dy uy)
    (h : Reach c.okp (loadEv (c.Θ t) dy hpE) x) : ∃ addr u, uy = .pointer (some addr) ∧ (loadVar t addr).run P w = .ok u w ∧ DR P w Im H.kd Q x.1 u := by
  unfold loadEv at h
  split at h
  · rename_i id off
    split at h
    · rename_i i r cs hf
      split at h
      · rename_i hle
        obtain ⟨d, hd, h⟩ := reach_ofO h
        simp only [DR] at hy
        obtain ⟨b, hq, hy⟩ := hy.2 (by rw [find_kd hsub hf]; rfl)
        obtain ⟨b', us, e', fz, hq', hb, hfz, hus⟩ := find_ob hw hsub hf
        rw [hq] at hq'; cases hq'
        exact load_cells' hc hw (o' := 0) (k := off) (by simpa using hy) hus (cellsAt_of hb (fun j u hj => by simpa using hj)) hle hd (reach_just h)
      · cases h
    · cases h
  · rename_i rs z
    split at h
    · rename_i hle
      obtain ⟨d, hd, h⟩ := reach_ofO h
      simp only [DR, VR] at hy
      obtain ⟨b, o', vs, hy, hI, hcr, hcell⟩ := hy
      have hl := CR_length rs z hcr
      have hdr := DRL_cells (Q := Q) (K := H.kd) rs z vs hcr
      have hl2 := DRL_length _ _ hdr
      exact load_cells' hc hw (o' := o') (k := 0) (by simpa using hy) hdr hcell (by omega) (by simpa [ddr] using hd) (reach_just h)
    · cases h
  · rename_i rs z off
    split at h
    · rename_i hle
      obtain ⟨d, hd, h⟩ := reach_ofO h
      simp only [DR] at hy
      obtain ⟨b, o', vs, hy, hI, hcr, hcell⟩ := hy
      have hl := CR_length rs z hcr
      have hdr := DRL_cells (Q := Q) (K := H.kd) rs z vs hcr
      have hl2 := DRL_length _ _ hdr
      exact load_cells' hc hw (o' := o') (k := off) hy hdr hcell (by omega) hd (reach_just h)
    · cases h
  · rename_i id row off
    split at h
    · rename_i i r rs l hf
      split at h
      · rename_i hle
        cases h with
        | idx h0 hget h =>
          rename_i r'
          obtain ⟨d, hd, h⟩ := reach_ofO h
          simp only [DR] at hy
          obtain ⟨b, o', hq, _, _, hy⟩ := hy.2 _ _ (by rw [find_kd hsub hf]; rfl)
          rcases find_ob hw hsub hf with ⟨hq', _⟩ | ⟨b', o'', cs, e', fz, hq', hb, hfz, hsz, hrow⟩
          · rw [hq] at hq'; cases hq'
          · rw [hq] at hq'; cases hq'
            obtain ⟨vs, hcr, hcs⟩ := hrow row.toNat r' hget
            have hl := CR_length rs r' hcr
            have hdr := DRL_cells (Q := Q) (K := H.kd) rs r' vs hcr
            have hl2 := DRL_length _ _ hdr
            exact load_cells' hc hw (o' := o' + row.toNat * rs.length) (k := off) hy hdr (cellsAt_of hb hcs) (by omega) hd (reach_just h)
      · cases h
    · cases h
  · cases h
end
end Go.Ev
