/- A part of the proof. -/
import Derived.Test.YtdlcimoofbhfaaaGreatEvO7
import Derived.Laws.BytesArg
set_option linter.all false
set_option linter.constructorNameAsVariable false
set_option linter.unusedVariables false
set_option linter.unusedSimpArgs false
namespace Go.Ev
theorem one_cells {u : Value} (h : u.oneCell' = true) : u.cells = #[u] := by
  cases u <;> first | rfl | (simp [Value.oneCell'] at h)
section
variable {P : Program} {c : Ctx} {H : Hp} {Q : QM} {Im : IM} {w : World} {val : Operand → D} {ρ : Operand → Value} {hpE : Heap} {nid : Nat} {o : Oper} {x : D × Dl}
theorem leaves_cells {K : Nat → Option Kd} {d : D} {u : Value} (hs : (leaves d).all solid = true) (h : DR P w Im K Q d u) : DRL P w Im K Q (leaves d) u.cells.toList := by
  have one : solid d = true → leaves d = [d] → DRL P w Im K Q (leaves d) u.cells.toList := by
    intro h1 h2
    rw [h2, one_cells (DR_one d u h1 h)]
    simp only [DRL]
    exact ⟨u, [], rfl, h, rfl⟩
  cases d with
  | agg cs =>
    simp only [DR] at h
    obtain ⟨us, rfl, h⟩ := h
    simpa [leaves, Value.cells] using h
  | _ => first | (simp [leaves, solid] at hs; done) | exact one rfl rfl
theorem zeroD_R {K : Nat → Option Kd} : ∀ (rs : List Sh) (us : List Value), zeroCells rs us → DRL P w Im K Q (rs.map zeroD) us
  | [], us, h => by simp only [zeroCells] at h; simp only [List.map_nil, DRL]; exact h
  | sh :: r, us, h => by
    simp only [zeroCells] at h
    obtain ⟨u, us', rfl, h1, h2⟩ := h
    simp only [List.map_cons, DRL]
    refine ⟨u, us', rfl, ?_, zeroD_R r us' h2⟩
    cases sh <;> simp only [zeroD, DR, VR] <;> first | exact h1 | trivial
theorem zeroCells_length : ∀ (rs : List Sh) (us : List Value), zeroCells rs us → us.length = rs.length
  | [], us, h => by simp only [zeroCells] at h; simp [h]
  | sh :: r, us, h => by
    simp only [zeroCells] at h
    obtain ⟨u, us', rfl, h1, h2⟩ := h
    simp [zeroCells_length r us' h2]
theorem setFold : ∀ (vs : List Value) (k : Nat) (cs : Array Value) (off : Nat), off + k + vs.length ≤ cs.size →
    ((vs.zipIdx k).foldl (fun cs (p : Value × Nat) => cs.setIfInBounds (off + p.2) p.1) cs).toList = cs.toList.take (off + k) ++ vs ++ cs.toList.drop (off + k + vs.length)
  | [], k, cs, off, h => by simp
  | v :: r, k, cs, off, h => by
    simp only [List.length_cons] at h
    rw [List.zipIdx_cons, List.foldl_cons, setFold r (k + 1) _ off (by simp; omega)]
    simp only [Array.toList_setIfInBounds]
    have e : off + (k + 1) = off + k + 1 := by omega
    rw [e]
    apply List.ext_getElem?
    intro i
    simp only [List.append_assoc, List.getElem?_append, List.length_take, List.length_set, Array.length_toList, List.length_cons, List.getElem?_take, List.getElem?_drop, List.getElem?_set]
    have h1 : min (off + k + 1) cs.size = off + k + 1 := by omega
    have h2 : min (off + k) cs.size = off + k := by omega
    rw [h1, h2]
    by_cases g1 : i < off + k
    · rw [if_pos (by omega), if_pos (by omega), if_pos g1, if_pos g1, if_neg (by omega)]
    · by_cases g2 : i = off + k
      · subst g2
        rw [if_pos (by omega), if_pos (by omega), if_pos rfl, if_pos (by omega), if_neg (by omega), if_pos (by omega)]
        simp
      · rw [if_neg (by omega), if_neg g1]
        by_cases g3 : i < off + k + 1 + r.length
        · rw [if_pos (by omega), if_pos (by omega)]
          rw [show i - (off + k) = (i - (off + k + 1)) + 1 by omega, List.getElem?_cons_succ]
        · rw [if_neg (by omega), if_neg (by omega), if_neg (by omega)]
          congr 1
          omega
theorem fill_one {place : Nat → Option (Nat × Nat)} {cs : Array Value} {i off : Nat} {v : Value} {rest : List (Nat × Value)} (hp : place i = some (off, v.cells.size)) (hle : off + v.cells.size ≤ cs.size) :
    Instr.fill place cs ((i, v) :: rest) = Instr.fill place (cs.toList.take off ++ v.cells.toList ++ cs.toList.drop (off + v.cells.size)).toArray rest := by
  simp only [Instr.fill, hp]
  rw [if_neg (by simp; omega)]
  congr 1
  apply Array.ext'
  have := setFold v.cells.toList 0 cs off (by simpa using hle)
  simp only [Nat.add_zero, Array.length_toList] at this
  rw [← this, ← Array.foldl_toList, Array.toList_zipIdx]
theorem fill_build {K : Nat → Option Kd} {ti : TI} (hv : ∀ x, DR P w Im K Q (val x) (ρ x)) (place : Nat → Option (Nat × Nat)) (hp : ∀ (i off n : Nat) (ag : Bool), ti.fs[i]? = some (off, n, ag) → place i = some (off, n)) :
    ∀ (ps : List (Nat × Operand)) (cs ds : List D) (us : List Value), buildCells ti val ps cs = some ds → DRL P w Im K Q cs us →
      ∃ us', Instr.fill place us.toArray (ps.map fun p => (p.1, ρ p.2)) = some us'.toArray ∧ DRL P w Im K Q ds us'
  | [], cs, ds, us, h, hd => by
    simp only [buildCells] at h; cases h
    exact ⟨us, rfl, hd⟩
  | (i, y) :: r, cs, ds, us, h, hd => by
    simp only [buildCells] at h
    split at h
    · rename_i off n ag hf
      split at h
      · rename_i hcond
        obtain ⟨h1, h2, h3⟩ := hcond
        have hl := leaves_cells h3 (hv y)
        have hsz : (ρ y).cells.size = n := by
          have := DRL_length _ _ hl
          rw [Array.length_toList, h1] at this; exact this
        have hlen := DRL_length _ _ hd
        rw [dtk_eq, ddr_eq] at h
        simp only [List.map_cons]
        rw [fill_one (off := off) (by rw [hp i off n ag hf, hsz]) (by simp; omega)]
        refine fill_build hv place hp r _ ds _ h ?_
        refine DRL_append _ _ _ _ (DRL_append _ _ _ _ (DRL_take off _ _ hd) hl) ?_
        rw [hsz]
        exact DRL_drop (off + n) _ _ hd
      · cases h
    · cases h
theorem run_zeroValue {t : TypeId} {i : TypeInfo} {z : Value} (h : P.info? t = some i) (hz : i.zero = some z) : (zeroValue t).run P w = .ok z w := by
  simp [zeroValue, typeInfo, h, hz]
theorem run_mapM {α β : Type} (f : α → Sem β) (g : α → β) : ∀ (l : List α), (∀ x ∈ l, (f x).run P w = .ok (g x) w) → (l.mapM f).run P w = .ok (l.map g) w
  | [], h => by simp
  | a :: r, h => by
    simp only [List.mapM_cons, Sem.run_bind, h a (by simp), Result.andThen_ok, run_mapM f g r (fun x hx => h x (by simp [hx])), Sem.run_pure, List.map_cons]
theorem sim_build (hc : CtxOk P c) (hw : WR P H Q Im w) (hv : ∀ x, DR P w Im H.kd Q (val x) (ρ x)) {t : TypeId} {ps : Array (Nat × Operand)} (ho : o.op = .build t ps)
    (h : Reach c.okp (evOp c val hpE nid (.build t ps)) x) : Sim P H Q Im w ρ o nid x := by
  simp only [evOp] at h
  split at h
  · rename_i hag
    obtain ⟨ds, hds, h⟩ := reach_ofO h
    rw [reach_just h]
    rcases hc.ti t with h0 | ⟨_, hf⟩
    · rw [h0.2.1] at hag; cases hag
    · obtain ⟨i, z, hi, hsz, hz, hzc⟩ := hf.info
      cases hf.desc with
      | one sh d h1 => rw [h1] at hag; cases hag
      | agg fs h1 h2 h3 h4 _ =>
        obtain ⟨h2, hfl⟩ := h2
        have hall : ∀ f ∈ fs.toList, ∃ n, (sizeOf f.type).run P w = .ok n w ∧ ∀ (j : Nat), fs[j]? = some f → ∀ (off n' : Nat) (ag : Bool), (c.Θ t).fs[j]? = some (off, n', ag) → off = f.offset ∧ n' = n := by
          intro f hf'
          obtain ⟨j, hj, hj'⟩ := List.getElem_of_mem hf'
          rw [Array.length_toList] at hj
          have hlt : j < (c.Θ t).fs.length := by rw [← hfl]; exact hj
          obtain ⟨f', i', d', e1, e2, e3, e4, e5, _⟩ := h3 j _ _ _ (List.getElem?_eq_getElem hlt)
          have e6 : fs[j]? = some f := by
            rw [Array.getElem?_eq_getElem hj]; rw [Array.getElem_toList] at hj'; rw [hj']
          rw [e6] at e1; cases e1
          refine ⟨i'.size, run_sizeOf' e3, fun k hk off n' ag hk' => ?_⟩
          obtain ⟨f2, i2, d2, g1, g2, g3, g4, g5, _⟩ := h3 k _ _ _ hk'
          rw [hk] at g1; cases g1
          rw [e3] at g3; cases g3
          exact ⟨g2.symm, g5.symm⟩
        let sz : Field → Nat := fun f => match (sizeOf f.type).run P w with | .ok n _ => n | _ => 0
        have hmap : (fs.mapM fun (f : Field) => do pure (f.offset, ← sizeOf f.type)).run P w = .ok (fs.map fun f => (f.offset, sz f)) w := by
          rw [Array.mapM_eq_mapM_toList]
          have := run_mapM (P := P) (w := w) (fun (f : Field) => do pure (f.offset, ← sizeOf f.type)) (fun f => (f.offset, sz f)) fs.toList (by
            intro f hf'
            obtain ⟨n, hn, _⟩ := hall f hf'
            simp only [Sem.run_bind, hn, Result.andThen_ok, Sem.run_pure, sz])
          simp only [Sem.run_map, this]
          show Result.ok _ w = _
          congr 1
          apply Array.ext'
          simp
        obtain ⟨us, hfill, hus⟩ := fill_build (P := P) (w := w) (Im := Im) (Q := Q) (K := H.kd) (val := val) (ρ := ρ) hv ((fs.map fun f => (f.offset, sz f))[·]?) (by
          intro j off n ag hj
          obtain ⟨f', i', d', e1, e2, e3, e4, e5, _⟩ := h3 j _ _ _ hj
          simp only [Array.getElem?_map, e1, Option.map_some, sz, run_sizeOf' e3, e2, e5]) ps.toList _ ds _ hds (zeroD_R _ _ hzc)
        refine sim_value (u := .agg us.toArray) (w' := w) hw ?_ rfl (by simp only [DR]; exact ⟨us, rfl, hus⟩)
        simp only [execOp, ho, Instr.build, Sem.run_bind, run_zeroValue hi hz, Result.andThen_ok, run_underlying h2, hmap, Sem.run_pure]
        have e9 : (ps.map fun (p : Nat × Operand) => (p.1, ρ p.2)).toList = ps.toList.map fun p => (p.1, ρ p.2) := by simp
        rw [e9]
        rw [Array.toArray_toList] at hfill
        rw [hfill]
        simp
  · cases h
theorem VR_bytes {l : List Int} {u : Value} (h : VR P (.sl [.i .u8]) l w Im u) {s d e : TypeId} (hs : P.underlying s = some (.slice e)) (he : P.underlying e = some (.int .u8)) (hd : P.underlying d = some .string) :
    (convert s d u).run P w = .ok (.string (strOfNums l)) w := by
  simp only [VR] at h
  obtain ⟨a, cap, rfl, hcap, hrow⟩ := h
  by_cases hl : l = []
  · subst hl
    cases a with
    | none => rw [run_convert_bytes_nil w s e hs he _ _ d hd]; rfl
    | some a =>
      rw [run_convert_bytes_string w s d e _ _ cap hs he hd, run_bytesToString w a _ cap [] (by
        have := run_loadCells_list (P := P) w a [] (by simp)
        simpa using this)]
      rfl
  · obtain ⟨b, o', rfl, hI, hrow⟩ := hrow hl
    refine run_convert_bytes_arg w s e hs he b o' l.length cap l rfl ?_ d hd
    intro i hi
    obtain ⟨vs, h1, h2⟩ := hrow i _ (List.getElem?_eq_getElem hi)
    simp only [CR, VR] at h1
    obtain ⟨v, rfl, rfl⟩ := h1
    have := h2 0 _ rfl
    simp only [List.length_cons, List.length_nil, Nat.mul_one, Nat.zero_add, Nat.add_zero] at this
    rw [this, List.getD_eq_getElem?_getD, List.getElem?_eq_getElem hi]
    rfl
theorem sim_convert_pure (hc : CtxOk P c) (hw : WR P H Q Im w) (hv : ∀ x, DR P w Im H.kd Q (val x) (ρ x)) (hsub : ∀ id h, hpE.find id = some h → H id = some h) {s t : TypeId} {y : Operand} (ho : o.op = .convert s t y)
    (hno : ∀ l rs, val y = .v .s l → (c.Θ t).one ≠ [.sl rs])
    (h : Reach c.okp (evOp c val hpE nid (.convert s t y)) x) : Sim P H Q Im w ρ o nid x := by
  have hy := hv y
  simp only [evOp] at h
  unfold convEv at h
  split at h
  · rename_i k k' k'' n h1 h2 e
    obtain ⟨d1, hd1, ha1, hs1⟩ := ti_one (hc.ti s) h1
    obtain ⟨d2, hd2, _, hs2⟩ := ti_one (hc.ti t) h2
    simp only [shDesc] at hs2; subst hs2
    rw [e] at hy; simp only [DR, VR] at hy
    rw [reach_just h]
    refine sim_value (u := .int k' (k'.wrap n)) (w' := w) hw ?_ rfl (by simp only [DR, VR])
    simp only [shDesc] at hs1; subst hs1
    simp [execOp, ho, hy, convert, run_underlying hd1, run_underlying hd2, Conv.intToInt]
  · rename_i l h1 h2 e
    obtain ⟨d1, hd1, ha1, hs1⟩ := ti_one (hc.ti s) h1
    obtain ⟨d2, hd2, _, hs2⟩ := ti_one (hc.ti t) h2
    simp only [shDesc] at hs1 hs2; subst hs1; subst hs2
    rw [e] at hy; simp only [DR, VR] at hy
    obtain ⟨s', hy, rfl⟩ := hy
    rw [reach_just h]
    refine sim_value (u := .string s') (w' := w) hw ?_ rfl (by simp only [DR, VR]; exact ⟨_, rfl, rfl⟩)
    simp [execOp, ho, hy, convert, run_underlying hd1, run_underlying hd2]
  · rename_i l h1 h2 e
    exact absurd h2 (hno _ _ e)
  · rename_i d h1 h2
    obtain ⟨⟨l, sn⟩, hl, h⟩ := reach_ofO h
    have hvr := toR_sound hw.ob hsub _ _ _ _ _ hl hy
    obtain ⟨d1, hd1, ha1, e, hs1, hel⟩ := ti_one (hc.ti s) h1
    obtain ⟨d2, hd2, _, hs2⟩ := ti_one (hc.ti t) h2
    simp only [shDesc] at hs2; subst hs1; subst hs2
    rw [reach_just h]
    refine sim_value (u := .string (strOfNums l)) (w' := w) hw ?_ rfl (by simp only [DR, VR]; exact ⟨_, rfl, strOfNums_data l⟩)
    simp [execOp, ho, VR_bytes hvr hd1 (hel.u8 rfl) hd2]
  · cases h
end
end Go.Ev
