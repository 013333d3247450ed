/- A part of the proof. -/
import Derived.Test.YtdlcimoofbhfaaaGreatEvP3
import Derived.Laws.IdiomStrings
set_option linter.all false
set_option linter.constructorNameAsVariable false
set_option linter.unusedVariables false
set_option linter.unusedSimpArgs false
namespace Go.Ev
section
variable {P : Program} {c : Ctx} {H : Hp} {Q : QM} {Im : IM} {w : World} {val : Operand → D} {ρ : Operand → Value} {hpE : Heap} {nid : Nat} {o : Oper} {x : D × Dl}
theorem elemSh_ok (hc : CtxOk P c) {t : TypeId} {rs : List Sh} (h : elemSh (c.Θ t) = some rs) : ∃ e, P.underlying t = some (.slice e) ∧ ElemOk P e rs := by
  unfold elemSh at h
  split at h
  · rename_i rs' h1
    cases h
    obtain ⟨d, hd, _, e, hsd, hel⟩ := ti_one (hc.ti t) h1
    exact ⟨e, by rw [hd, hsd], hel⟩
  · cases h
theorem alloc_push {w w' : World} {ob : Obj} (h : w' = w.alloc ob ∨ w' = w.drew.alloc ob) : (w'.heap, outside w') = (w.heap.push ob, outside w) := by
  rcases h with rfl | rfl <;> rfl
theorem sim_newbuf {u : Value} {w' : World} {cs : Array Value} {e : TypeId} {fz : Nat × Nat} {rs : List Sh} {l : List (tyL rs)} {us : List Value} {dl sn : List Nat} {cap : Nat} (hw : WR P H Q Im w) (hf : Fr H val nid)
    (hr : (execOp ρ o).run P w = .ok (.value (.slice (some ⟨w.heap.size, 0, none⟩) l.length cap)) w') (hp : (w'.heap, outside w') = (w.heap.push (.cells cs e fz), outside w)) (hfz : freeB rs fz cs.size)
    (hrows : Rows P w (ImS Q Im sn) rs l us) (hcs : ∀ (j : Nat) u, us[j]? = some u → cs[j]? = some u) (hcap : l.length ≤ cap) (hsz : cs.size = cap * rs.length) (hdl : WrOk H dl) (hsn : ∀ s ∈ sn, s ∈ dl)
    (hx : x = (.own nid, { del := dl, put := [(nid, .buf rs l)] })) : Sim P H Q Im w ρ o nid x := by
  subst hx
  have hh : w'.heap = w.heap.push (.cells cs e fz) := congrArg Prod.fst hp
  have hg : Chg H Q (Q.put nid (some (w.heap.size, 0))) w w' sn nid { del := dl, put := [(nid, .buf rs l)] } :=
    chg_new hw (hf.new nid (Nat.le_refl _) (by omega)) hp hdl hsn
  have hmul : l.length * rs.length ≤ cap * rs.length := Nat.mul_le_mul_right _ hcap
  have hb : w'.heap[w.heap.size]? = some (.cells cs e fz) := by rw [hh]; simp
  have hst := hg.step hw hf.ob (fun id ob hl => by
    obtain ⟨rfl, rfl⟩ := look_one hl
    exact ObR.mk (b := w.heap.size) (o := 0) (us := us) (by simp [QM.put]) hb hfz (hrows.mono (hg.imms hw)) (fun j u hj => by rw [Nat.zero_add]; exact hcs j u hj) (by omega))
  refine sim_of hr hst ?_
  simp only [DR]
  refine ⟨rfl, fun n len hk => ?_⟩
  have : (H.app { del := dl, put := [(nid, .buf rs l)] }).kd nid = some (.buf rs.length l.length) := by
    simp [Hp.kd, Hp.app, look, Ob.kd]
  rw [this] at hk; cases hk
  refine .inr ⟨w.heap.size, 0, cap, by simp [QM.put], rfl, hcap, ?_⟩
  simp only [bsize, hb, hsz]
  omega
theorem rowsOf_length : ∀ (ds : List D) {rs : List Sh} {l : List (tyL rs)} {sn : List Nat}, rowsOf rs hpE ds = some (l, sn) → l.length = ds.length
  | [], rs, l, sn, h => by simp only [rowsOf] at h; cases h; rfl
  | d :: r, rs, l, sn, h => by
    simp only [rowsOf] at h
    split at h
    · split at h
      · rename_i h2; cases h; simp [rowsOf_length r h2]
      · cases h
    · cases h
theorem sim_buildSlice (hc : CtxOk P c) (hw : WR P H Q Im w) (hv : ∀ x, DR P w Im H.kd Q (val x) (ρ x)) (hsub : ∀ id h, hpE.find id = some h → H id = some h) (hf : Fr H val nid) {t : TypeId} {len : Nat} {ps : Array (Nat × Operand)} (ho : o.op = .buildSlice t len ps)
    (h : Reach c.okp (evOp c val hpE nid (.buildSlice t len ps)) x) : Sim P H Q Im w ρ o nid x := by
  simp only [evOp] at h
  obtain ⟨rs, hrs, h⟩ := reach_ofO h
  obtain ⟨e, ht, hel⟩ := elemSh_ok hc hrs
  split at h
  · rename_i hcond
    simp only [Bool.and_eq_true, beq_iff_eq, decide_eq_true_eq] at hcond
    obtain ⟨hseq, hlen, hmax⟩ := hcond
    obtain ⟨⟨l, sn⟩, hl, h⟩ := reach_ofO h
    dsimp only at h
    split at h
    · rename_i hwr
      cases h
      obtain ⟨i, z, hi, hsz, _, _, hz, hzc⟩ := hel.info
      have hps : ps.toList.length = len := by rw [Array.length_toList]; exact hlen
      have hfill := fun (zs : Array Value) (hzs : zs.size = len * rs.length) => fill_seq hw hv hsub ps.toList 0 zs l sn hseq hl (by rw [Nat.zero_add, hps, hzs]; exact Nat.le_refl _)
      let zs : Array Value := if len * rs.length = 0 then (Array.range (len * rs.length)).map ((#[] : Array Value)[· % (#[] : Array Value).size]!) else (Array.range (len * rs.length)).map (z.cells[· % z.cells.size]!)
      have hzs : zs.size = len * rs.length := by simp only [zs]; split <;> simp
      obtain ⟨us, h1, h2, h3, h4⟩ := hfill zs hzs
      have h5 : zs.toList.drop ((0 + ps.toList.length) * rs.length) = [] := by
        apply List.drop_of_length_le
        rw [Array.length_toList, hzs, Nat.zero_add, hps]; exact Nat.le_refl _
      rw [Nat.zero_mul, List.take_zero, List.nil_append, h5, List.append_nil] at h4
      have hll : l.length = len := by rw [h3, hps]
      refine sim_newbuf (cs := us.toArray) (e := e) (fz := (0, 0)) (us := us) (cap := len) (w' := w.alloc (.cells us.toArray e)) (u := .nilIface) hw hf ?_ rfl (freeB_zero _ _) h1 (fun j u hj => by simpa using hj) (by omega) (by rw [List.size_toArray, h2, hps]) (wr_ok hsub hwr) (fun s hs => hs) rfl
      have hgt : ¬ (len * i.size > 16777216) := by rw [hsz]; omega
      have e9 : (ps.map fun (p : Nat × Operand) => (p.1, ρ p.2)).toList = ps.toList.map fun p => (p.1, ρ p.2) := by simp
      by_cases h0 : len * rs.length = 0
      · simp only [zs, if_pos h0] at h4
        simp only [execOp, ho, Instr.buildSlice, Sem.run_bind, run_underlying ht, Result.andThen_ok, run_sizeOf' hi, hsz, Sem.run_pure, if_pos h0]
        rw [if_neg (by simpa [hsz] using hgt)]
        simp only [Sem.run_bind, Sem.run_pure, Result.andThen_ok, e9, h4, newRow, hll]
        simp
      · simp only [zs, if_neg h0] at h4
        simp only [execOp, ho, Instr.buildSlice, Sem.run_bind, run_underlying ht, Result.andThen_ok, run_sizeOf' hi, hsz, Sem.run_pure, if_neg h0]
        rw [if_neg (by simpa [hsz] using hgt)]
        simp only [Sem.run_bind, Sem.run_pure, Result.andThen_ok, e9, run_zeroValue hi hz, h4, newRow, hll]
        simp
    · cases h
  · cases h
theorem zeroT_R {K : Nat → Option Kd} : ∀ (rs : List Sh) (z : tyL rs) (us : List Value), zeroT rs = some z → zeroCells rs us → CR P rs z w Im us
  | [], z, us, h, hz => by simp only [zeroCells] at hz; simp only [CR]; exact hz
  | [a], z, us, h, hz => by
    simp only [zeroT] at h
    simp only [zeroCells] at hz
    obtain ⟨u, us', rfl, h1, rfl⟩ := hz
    simp only [CR]
    refine ⟨u, rfl, ?_⟩
    cases a <;> simp only [Sh.zero] at h <;> first | (cases h; done) | skip
    all_goals cases h
    all_goals simp only [VR]
    all_goals first
      | exact h1
      | exact .inl ⟨trivial, h1⟩
      | exact ⟨none, 0, h1, Nat.le_refl _, fun hn => absurd rfl hn⟩
  | a :: b :: r, z, us, h, hz => by
    simp only [zeroT] at h
    rw [zeroCells] at hz
    obtain ⟨u, us', rfl, h1, h2⟩ := hz
    split at h
    · rename_i x y hx hy
      cases h
      simp only [CR]
      refine ⟨u, us', rfl, ?_, zeroT_R (K := K) (b :: r) y us' hy h2⟩
      cases a <;> simp only [Sh.zero] at hx <;> first | (cases hx; done) | skip
      all_goals cases hx
      all_goals simp only [VR]
      all_goals first
        | exact h1
        | exact .inl ⟨trivial, h1⟩
        | exact ⟨none, 0, h1, Nat.le_refl _, fun hn => absurd rfl hn⟩
    · cases h
theorem rep_get {α : Type} : ∀ (n m : Nat) (us : List α) (j : Nat) u, us.length = m → 0 < m → (List.replicate n us).flatten[j]? = some u → us[j % m]? = some u ∧ j < n * m
  | 0, m, us, j, u, hl, hm, h => by simp at h
  | n + 1, m, us, j, u, hl, hm, h => by
    rw [List.replicate_succ, List.flatten_cons] at h
    by_cases h1 : j < m
    · rw [List.getElem?_append_left (by omega)] at h
      rw [Nat.mod_eq_of_lt h1, Nat.add_mul]
      exact ⟨h, by omega⟩
    · rw [List.getElem?_append_right (by omega), hl] at h
      obtain ⟨h2, h3⟩ := rep_get n m us (j - m) u hl hm h
      rw [Nat.mod_eq_sub_mod (by omega), Nat.add_mul]
      exact ⟨h2, by omega⟩
theorem sim_makeSlice (hc : CtxOk P c) (hw : WR P H Q Im w) (hv : ∀ x, DR P w Im H.kd Q (val x) (ρ x)) (hf : Fr H val nid) {t : TypeId} {y z : Operand} (ho : o.op = .makeSlice t y z)
    (h : Reach c.okp (evOp c val hpE nid (.makeSlice t y z)) x) : Sim P H Q Im w ρ o nid x := by
  simp only [evOp] at h
  obtain ⟨rs, hrs, h⟩ := reach_ofO h
  obtain ⟨e, ht, hel⟩ := elemSh_ok hc hrs
  obtain ⟨n, hn, h⟩ := reach_ofO h
  obtain ⟨m, hm, h⟩ := reach_ofO h
  obtain ⟨zt, hzt, h⟩ := reach_ofO h
  cases h with
  | req hb h =>
    cases h
    obtain ⟨hb1, rfl, hb2⟩ := hb
    obtain ⟨k1, hy⟩ := asI_val hn (hv y)
    obtain ⟨k2, hz⟩ := asI_val hm (hv z)
    obtain ⟨i, zv, hi, hsz, hb3, hb4, hzv, hzc⟩ := hel.info
    have hzl := zeroCells_length _ _ hzc
    have hcr := zeroT_R (P := P) (w := w) (Im := ImS Q Im []) (K := H.kd) rs zt _ hzt hzc
    have hbytes : (i.bytes : Int) * n ≤ 281474976710656 := by
      have h1 : i.bytes * n.toNat ≤ 65536 * 1073741824 := Nat.mul_le_mul hb4 (by simp only [bound] at hb2; omega)
      have h2 : ((i.bytes * n.toNat : Nat) : Int) = (i.bytes : Int) * n := by rw [Int.natCast_mul, Int.toNat_of_nonneg hb1]
      omega
    have hrun := run_make (P := P) w t e i zv ht hi hzv k1 k2 n n hb1 (Int.le_refl _) hbytes (by simp only [bound] at hb2; omega)
    refine sim_newbuf (cs := madeCells zv.cells (n.toNat * i.size)) (e := e) (fz := (0, 0)) (us := (List.replicate n.toNat zv.cells.toList).flatten) (cap := n.toNat) (sn := []) (u := .nilIface)
      (w' := w.alloc (.cells (madeCells zv.cells (n.toNat * i.size)) e)) hw hf ?_ rfl (freeB_zero _ _) (Rows.replicate hcr _) ?_ (by simp) (by rw [size_madeCells, hsz]) (fun i hi => by cases hi) (fun i hi => by cases hi) rfl
    · simp only [execOp, ho, hy, hz, Sem.run_bind, hrun, Result.andThen_ok, Sem.run_pure, List.length_replicate]
    · intro j u hj
      have hp := hel.pos
      obtain ⟨h1, h2⟩ := rep_get _ rs.length _ j u hzl hp hj
      have hzs : zv.cells.size = rs.length := by rw [← Array.length_toList]; exact hzl
      have hlt : j % rs.length < zv.cells.size := by rw [hzs]; exact Nat.mod_lt _ hp
      simp only [madeCells, Array.getElem?_map, hsz, hzs]
      rw [Array.getElem?_range]
      rw [Array.getElem?_toList, Array.getElem?_eq_getElem hlt] at h1
      cases h1
      simp [h2, hlt]
theorem sim_convert (hc : CtxOk P c) (hw : WR P H Q Im w) (hv : ∀ x, DR P w Im H.kd Q (val x) (ρ x)) (hsub : ∀ id h, hpE.find id = some h → H id = some h) (hf : Fr H val nid) {s t : TypeId} {y : Operand} (ho : o.op = .convert s t y)
    (h : Reach c.okp (evOp c val hpE nid (.convert s t y)) x) : Sim P H Q Im w ρ o nid x := by
  by_cases hno : ∀ l rs, val y = .v .s l → (c.Θ t).one ≠ [.sl rs]
  · exact sim_convert_pure hc hw hv hsub ho hno h
  · simp only [Classical.not_forall, not_imp, Classical.not_not] at hno
    obtain ⟨l, rs, hl, hrs⟩ := hno
    have hy := hv y
    simp only [evOp] at h
    unfold convEv at h
    split at h
    · rename_i h1 h2 h3; rw [hl] at h3; cases h3
    · rename_i h1 h2 h3; rw [hrs] at h2; cases h2
    · rename_i l' h1 h2 h3
      obtain ⟨d1, hd1, ha1, hs1⟩ := ti_one (hc.ti s) h1
      obtain ⟨d2, hd2, _, e, hs2, hel⟩ := ti_one (hc.ti t) h2
      simp only [shDesc] at hs1; subst hs1; subst hs2
      rw [h3] at hy; simp only [DR, VR] at hy
      obtain ⟨s', hy, rfl⟩ := hy
      cases h with
      | req hb h =>
        cases h
        have hrun := run_bytes_of_string (P := P) w s t e s' hd1 hd2 (hel.u8 rfl)
        have e1 : (strBytes s'.data.toList).length = s'.size := by simp only [strBytes, List.length_map, Array.length_toList]; rfl
        have hge := grownCap_ge w s'.size 0 e
        have hbs : (bytesRow s' (grownCap w s'.size 0 e)).size = grownCap w s'.size 0 e * [Sh.i .u8].length := by
          simp only [bytesRow, Array.size_append, Array.size_map, Array.size_replicate, List.length_cons, List.length_nil]
          have : s'.data.size = s'.size := rfl
          omega
        have hrows : ∀ (l : List UInt8), Rows P w (ImS Q Im []) [Sh.i .u8] (strBytes l) (l.map fun b => Value.int .u8 b.toNat) := by
          intro l
          induction l with
          | nil => simp [strBytes, Rows]
          | cons b r ih =>
            simp only [strBytes, List.map_cons, Rows]
            exact ⟨[_], _, rfl, by simp only [CR, VR]; exact ⟨_, rfl, rfl⟩, ih⟩
        refine sim_newbuf (cs := bytesRow s' (grownCap w s'.size 0 e)) (e := e) (fz := ((bytesRow s' (grownCap w s'.size 0 e)).size, (bytesRow s' (grownCap w s'.size 0 e)).size + 1))
          (us := s'.data.toList.map fun b => Value.int .u8 b.toNat) (cap := grownCap w s'.size 0 e) (sn := []) (u := .nilIface) (w' := w.drew.alloc _) hw hf ?_ rfl ⟨fun j hj => by dsimp only; omega, .inl rfl⟩ (hrows _) ?_ (by rw [e1]; exact hge) hbs (fun i hi => by cases hi) (fun i hi => by cases hi) rfl
        · simp only [execOp, ho, hy, Sem.run_bind, hrun, Result.andThen_ok, Sem.run_pure, e1]
        · intro j u hj
          have hlt := (List.getElem?_eq_some_iff.1 hj).1
          simp only [bytesRow]
          rw [Array.getElem?_append_left (by simpa using hlt)]
          simpa using hj
    · rename_i d h1 h2; rw [hrs] at h2; cases h2
    · cases h
end
end Go.Ev
