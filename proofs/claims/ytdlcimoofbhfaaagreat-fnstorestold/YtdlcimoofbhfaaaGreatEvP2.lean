/- A part of the proof. -/
import Derived.Test.YtdlcimoofbhfaaaGreatEvP1
set_option linter.all false
set_option linter.constructorNameAsVariable false
set_option linter.unusedVariables false
set_option linter.unusedSimpArgs false
namespace Go.Ev
def over (cs : Array Value) (o : Nat) (vs : List Value) : Array Value := (cs.toList.take o ++ vs ++ cs.toList.drop (o + vs.length)).toArray
theorem over_size {cs : Array Value} {o : Nat} {vs : List Value} (h : o + vs.length ≤ cs.size) : (over cs o vs).size = cs.size := by
  simp only [over, List.size_toArray, List.length_append, List.length_take, List.length_drop, Array.length_toList]; omega
theorem over_in {cs : Array Value} {o : Nat} {vs : List Value} (h : o + vs.length ≤ cs.size) (j : Nat) (u : Value) (hj : vs[j]? = some u) : (over cs o vs)[o + j]? = some u := by
  have hlt := (List.getElem?_eq_some_iff.1 hj).1
  simp only [over, List.getElem?_toArray]
  rw [List.append_assoc, List.getElem?_append_right (by simp; omega), List.length_take, show o + j - min o cs.toList.length = j by rw [Array.length_toList]; omega, List.getElem?_append_left hlt]
  exact hj
theorem over_out {cs : Array Value} {o k : Nat} {vs : List Value} (h : o + vs.length ≤ cs.size) (hk : k < o ∨ o + vs.length ≤ k) : (over cs o vs)[k]? = cs[k]? := by
  simp only [over, List.getElem?_toArray]
  rcases hk with hk | hk
  · rw [List.append_assoc, List.getElem?_append_left (by simp; omega), List.getElem?_take, if_pos hk, Array.getElem?_toList]
  · rw [List.getElem?_append_right (by simp; omega), List.getElem?_drop, Array.getElem?_toList]
    congr 1
    simp only [List.length_append, List.length_take, Array.length_toList]
    omega
theorem over_list {us : List Value} {o : Nat} {vs : List Value} : over us.toArray o vs = (us.take o ++ vs ++ us.drop (o + vs.length)).toArray := by
  simp [over]
theorem setc_sound {P : Program} {w : World} {Im : IM} {K : Nat → Option Kd} {Q : QM} {d : D} {u : Value} (hd : DR P w Im K Q d u) : ∀ (rs : List Sh) (n : Nat) (f : tyL rs → tyL rs) (r : tyL rs) (vs : List Value),
    setc rs n d = some f → CR P rs r w Im vs → CR P rs (f r) w Im (vs.set n u) ∧ n < vs.length
  | [], n, f, r, vs, h, hc => by simp [setc] at h
  | [a], 0, f, r, vs, h, hc => by
    have hc' := hc
    simp only [CR] at hc'
    obtain ⟨v, rfl, h1⟩ := hc'
    simp only [List.set_cons_zero, CR, List.length_cons, List.length_nil]
    refine ⟨⟨u, rfl, ?_⟩, by omega⟩
    cases d <;> try (simp [setc] at h; done)
    · rename_i sh x
      have : (castR a sh x).map (fun y (_ : tyL [a]) => y) = some f := by cases a <;> exact h
      simp only [Option.map_eq_some_iff] at this
      obtain ⟨y, h2, rfl⟩ := this
      obtain ⟨e, rfl⟩ := castR_eq h2
      subst e
      simpa only [DR] using hd
    · rename_i t
      cases a <;> try (simp [setc] at h; done)
      simp only [setc] at h; cases h
      simp only [DR] at hd
      simp only [VR]
      exact hd
  | [a], n + 1, f, r, vs, h, hc => by simp [setc] at h
  | a :: c :: q, 0, f, r, vs, h, hc => by
    have hc' := hc
    simp only [CR] at hc'
    obtain ⟨v, vs', rfl, h1, h2⟩ := hc'
    simp only [List.set_cons_zero, CR, List.length_cons]
    refine ⟨⟨u, vs', rfl, ?_⟩, by omega⟩
    cases d <;> try (simp [setc] at h; done)
    · rename_i sh x
      have : (castR a sh x).map (fun y (r : tyL (a :: c :: q)) => (y, r.2)) = some f := by cases a <;> exact h
      simp only [Option.map_eq_some_iff] at this
      obtain ⟨y, h3, rfl⟩ := this
      obtain ⟨e, rfl⟩ := castR_eq h3
      subst e
      exact ⟨by simpa only [DR] using hd, h2⟩
    · rename_i t
      cases a <;> try (simp [setc] at h; done)
      simp only [setc] at h; cases h
      simp only [DR] at hd
      simp only [VR]
      exact ⟨hd, h2⟩
  | a :: c :: q, n + 1, f, r, vs, h, hc => by
    have hc' := hc
    simp only [CR] at hc'
    obtain ⟨v, vs', rfl, h1, h2⟩ := hc'
    have : (setc (c :: q) n d).map (fun g (y : tyL (a :: c :: q)) => (y.1, g y.2)) = some f := by cases a <;> exact h
    simp only [Option.map_eq_some_iff] at this
    obtain ⟨g, h3, rfl⟩ := this
    obtain ⟨h4, h5⟩ := setc_sound hd (c :: q) n g r.2 vs' h3 h2
    simp only [List.set_cons_succ, CR, List.length_cons]
    exact ⟨⟨v, _, rfl, h1, h4⟩, by omega⟩
section
variable {P : Program} {c : Ctx} {H : Hp} {Q : QM} {Im : IM} {w : World} {val : Operand → D} {ρ : Operand → Value} {hpE : Heap} {nid : Nat} {o : Oper} {x : D × Dl}
theorem leaves_ones {K : Nat → Option Kd} : ∀ (ds : List D) (us : List Value), ds.all solid = true → DRL P w Im K Q ds us → ∀ u ∈ us, u.oneCell' = true
  | [], us, hs, h, u, hu => by simp only [DRL] at h; subst h; cases hu
  | d :: r, us, hs, h, u, hu => by
    simp only [DRL] at h
    obtain ⟨v, us', rfl, h1, h2⟩ := h
    simp only [List.all_cons, Bool.and_eq_true] at hs
    rcases List.mem_cons.1 hu with rfl | hu
    · exact DR_one d _ hs.1 h1
    · exact leaves_ones r us' hs.2 h2 u hu
theorem run_storeCells_fz (g o : Nat) (t : TypeId) (fz : Nat × Nat) : ∀ (vs : List Value) (i : Nat) (cur : Array Value) (w : World), w.heap[g]? = some (.cells cur t fz) → free fz cur.size → o + i + vs.length ≤ cur.size → (∀ v ∈ vs, v.oneCell' = true) →
    (storeCells ⟨g, o, none⟩ vs i).run P w = .ok () (w.setRow g (over cur (o + i) vs))
  | [], i, cur, w, hg, _, _, _ => by
    simp only [storeCells, over, List.append_nil, List.length_nil, Nat.add_zero, List.take_append_drop, Array.toArray_toList]
    rw [setRow_self w g cur t fz hg]
    rfl
  | v :: rest, i, cur, w, hg, hfz, hl, h1 => by
    have hi : o + i < cur.size := by simp at hl; omega
    have hcell : w.cell? ⟨g, o + i, none⟩ = some cur[o + i] := by simp [World.cell?, hg, hi]
    have hfro : w.frozen? ⟨g, o + i, none⟩ = false := by
      have := hfz _ hi
      simp only [World.frozen?, hg]
      simpa using this
    have hst : (store ((⟨g, o, none⟩ : Addr).add i) v).run P w = .ok () (w.setRow g (cur.setIfInBounds (o + i) v)) := by
      rw [add_none, run_store P w _ v _ (h1 v (by simp)), hcell]
      simp [hfro, setCell_eq_setRow w g (o + i) cur t fz v hg]
    have ih := run_storeCells_fz g o t fz rest (i + 1) (cur.setIfInBounds (o + i) v) (w.setRow g (cur.setIfInBounds (o + i) v)) (setRow_heap w g cur _ t _ hg) (by simpa using hfz) (by simp at hl ⊢; omega) (fun x hx => h1 x (by simp [hx]))
    simp only [storeCells, Sem.run_bind, hst, Result.andThen_ok, ih, setRow_setRow]
    congr 2
    have e := list_seg_step cur.toList (o + i) v rest (by simp at hl ⊢; omega)
    simp only [over, Array.toList_setIfInBounds, List.length_cons]
    congr 1
theorem run_store_block (hc : CtxOk P c) {t : TypeId} {y z : Operand} (ho : o.op = .store t y z) {b o' : Nat} {cs : Array Value} {e : TypeId} {fz : Nat × Nat} (hy : ρ y = .pointer (some ⟨b, o', none⟩)) (hb : w.heap[b]? = some (.cells cs e fz)) (hfz : free fz cs.size)
    (hp : 0 < (c.Θ t).cs.length) {vs : List Value} (hvs : (ρ z).cells.toList = vs) (hl : vs.length = (c.Θ t).cs.length) (h1 : ∀ u ∈ vs, u.oneCell' = true) (hfit : o' + vs.length ≤ cs.size) :
    (execOp ρ o).run P w = .ok .skip (w.setRow b (over cs o' vs)) := by
  obtain ⟨i, hi1, hi2⟩ := ti_size (hc.ti t) hp
  have hst := run_storeCells_fz (P := P) b o' e fz vs 0 cs w hb hfz (by simpa using hfit) h1
  simp only [Nat.add_zero] at hst
  have hsz : (ρ z).cells.size = i.size := by rw [hi2, ← hl, ← hvs, Array.length_toList]
  simp [execOp, ho, hy, Instr.storeAt, Instr.sureAddr, storeVar, run_sizeOf' hi1, hsz, hvs, hst, over]
theorem find_some (hsub : ∀ id h, hpE.find id = some h → H id = some h) {id i : Nat} {ob : Ob} {r : Bool} (hf : hpE.find id = some ⟨i, r, ob⟩) : H id = some ⟨i, r, ob⟩ := hsub _ _ hf
theorem look_one {id i : Nat} {ob ob' : Ob} (h : look [(id, ob)] i = some ob') : i = id ∧ ob' = ob := by
  simp only [look] at h
  split at h
  · rename_i e; cases h; exact ⟨e.symm, rfl⟩
  · cases h
theorem sim_store (hc : CtxOk P c) (hw : WR P H Q Im w) (hv : ∀ x, DR P w Im H.kd Q (val x) (ρ x)) (hsub : ∀ id h, hpE.find id = some h → H id = some h) (hf : Fr H val nid) {t : TypeId} {y z : Operand} (ho : o.op = .store t y z)
    (h : Reach c.okp (evOp c val hpE nid (.store t y z)) x) : Sim P H Q Im w ρ o nid x := by
  have hy := hv y
  have hz := hv z
  simp only [evOp] at h
  unfold storeEv at h
  split at h
  · rename_i hcond
    obtain ⟨hlen, hpos, hsolid⟩ := hcond
    have hlv := leaves_cells hsolid hz
    have hones := leaves_ones _ _ hsolid hlv
    have hvl := DRL_length _ _ hlv
    rw [hlen] at hvl
    split at h
    · rename_i id off e
      split at h
      · rename_i i cs hfd
        split at h
        · rename_i hle
          cases h
          rw [e] at hy; simp only [DR] at hy
          obtain ⟨b, hq, hy'⟩ := hy.2 (by rw [find_kd hsub hfd]; rfl)
          obtain ⟨b', us, e', fz, hq', hb, hfz, hus⟩ := find_ob hw hsub hfd
          rw [hq] at hq'; cases hq'
          have hul := DRL_length _ _ hus
          have hfit : off + (ρ z).cells.toList.length ≤ us.toArray.size := by rw [hvl, List.size_toArray, hul]; exact hle
          have hg : Chg H Q Q w (w.setRow b (over us.toArray off (ρ z).cells.toList)) [] nid { del := [], put := [(id, .box (dtk off cs ++ leaves (val z) ++ ddr (off + (c.Θ t).cs.length) cs))] } :=
            chg_in (cs := us.toArray) hw (find_some hsub hfd) rfl rfl hq hb (by simp [World.setRow]) (fun k hk => setRow_other w b k _ hk) (setRow_heap w b _ _ _ _ hb) (over_size hfit) (fun i hi => by cases hi) (by simp)
          have hst := hg.step hw hf.ob (fun id' ob hl => by
            obtain ⟨rfl, rfl⟩ := look_one hl
            refine ⟨b, us.take off ++ (ρ z).cells.toList ++ us.drop (off + (ρ z).cells.toList.length), e', fz, hq, ?_, ?_, ?_⟩
            rotate_left
            · intro j hj; exact hfz j (by have e9 := over_size hfit; rw [over_list] at e9; simp only [List.size_toArray] at e9; omega)
            rotate_left
            · rw [← over_list]; exact setRow_heap w b _ _ _ _ hb
            · rw [hvl]
              have hold := DRL_mono (hg.imm hw) cs us (fun i hi => hg.refs hw i (hf.ob _ _ (find_some hsub hfd) i hi)) hus
              have hnew := DRL_mono (hg.imm hw) _ _ (fun i hi => hg.refs hw i (hf.val z i (idsL_leaves _ i hi))) hlv
              have hfin := DRL_append _ _ _ _ (DRL_append _ _ _ _ (DRL_take off _ _ hold) hnew) (DRL_drop (off + (c.Θ t).cs.length) _ _ hold)
              rw [← dtk_eq, ← ddr_eq] at hfin
              exact hfin)
          exact sim_skip (run_store_block hc ho hy' hb (by simpa using hfz) hpos rfl hvl hones hfit) hst rfl
        · cases h
      · cases h
    · rename_i id row off e
      split at h
      · rename_i i rs l hfd
        have hk : H.kd id = some (.buf rs.length l.length) := by rw [find_kd hsub hfd]; rfl
        rw [e] at hy; simp only [DR] at hy
        obtain ⟨b, o', hq, h0, hlt, hy'⟩ := hy.2 _ _ hk
        have hrl : row.toNat < l.length := by omega
        have hmul : row.toNat * rs.length + rs.length ≤ l.length * rs.length := by
          rw [← Nat.succ_mul]; exact Nat.mul_le_mul_right _ hrl
        rcases find_ob hw hsub hfd with ⟨hq', _⟩ | ⟨b', o'', cs, e', fz, hq', hb, hfz, hsz, hrow⟩
        · rw [hq] at hq'; cases hq'
        rw [hq] at hq'; cases hq'
        split at h
        · rename_i hcond
          obtain ⟨rfl, hn⟩ := hcond
          obtain ⟨⟨r, sn⟩, hr, h⟩ := reach_ofO h
          dsimp only at h
          split at h
          · rename_i hcond
            cases h
            simp only [Bool.and_eq_true, Bool.not_eq_true', List.contains_eq_mem] at hcond
            have hni : id ∉ sn := by simpa using hcond.2
            have hcr := toRL_sound hw.ob hsub rs _ r sn _ hr hlv
            have hcl := CR_length rs r hcr
            have hfit : o' + row.toNat * rs.length + (ρ z).cells.toList.length ≤ cs.size := by rw [hcl]; omega
            have hg : Chg H Q Q w (w.setRow b (over cs (o' + row.toNat * rs.length) (ρ z).cells.toList)) sn nid { del := sn, put := [(id, .buf rs (l.set row.toNat r))] } :=
              chg_in (cs := cs) hw (find_some hsub hfd) rfl (by simp [Ob.kd]) hq hb (by simp [World.setRow]) (fun k hk => setRow_other w b k _ hk) (setRow_heap w b _ _ _ _ hb) (over_size hfit) (wr_ok hsub hcond.1) hni
            have hst := hg.step hw hf.ob (fun id' ob hl => by
              obtain ⟨rfl, rfl⟩ := look_one hl
              refine .inr ⟨b, o', _, e', fz, hq, setRow_heap w b _ _ _ _ hb, by rw [over_size hfit]; exact hfz, by rw [over_size hfit]; simpa using hsz, fun i' r' hr' => ?_⟩
              rw [List.getElem?_set] at hr'
              split at hr'
              · rename_i hii
                subst hii
                have hr' : r = r' := by simpa [hrl] using hr'
                subst hr'
                exact ⟨_, CR_mono rs r (hg.imms hw) hcr, fun j u hj => over_in hfit j u hj⟩
              · rename_i hne
                obtain ⟨vs, h3, h4⟩ := hrow i' r' hr'
                refine ⟨vs, CR_mono rs r' (hg.imm hw) h3, fun j u hj => ?_⟩
                have hvl2 := CR_length rs r' h3
                have hjlt := (List.getElem?_eq_some_iff.1 hj).1
                rw [over_out hfit, h4 j u hj]
                rw [hcl]
                rcases Nat.lt_or_gt_of_ne hne with hgt | hlt'
                · right
                  have : row.toNat * rs.length + rs.length ≤ i' * rs.length := by rw [← Nat.succ_mul]; exact Nat.mul_le_mul_right _ hgt
                  omega
                · left
                  have : i' * rs.length + rs.length ≤ row.toNat * rs.length := by rw [← Nat.succ_mul]; exact Nat.mul_le_mul_right _ hlt'
                  omega)
            exact sim_skip (run_store_block hc ho (by simpa using hy') hb hfz.1 hpos rfl hvl hones hfit) hst rfl
          · cases h
        · split at h
          · rename_i y' hyl
            obtain ⟨f, hfn, h⟩ := reach_ofO h
            cases h
            rw [hyl] at hlv
            simp only [DRL] at hlv
            obtain ⟨u, us', hue, hdu, rfl⟩ := hlv
            rw [hue] at hvl hones
            obtain ⟨r0, hr0⟩ : ∃ r0, l[row.toNat]? = some r0 := ⟨_, List.getElem?_eq_getElem hrl⟩
            obtain ⟨vs0, hcr0, hcs0⟩ := hrow _ _ hr0
            obtain ⟨hcr1, hoff⟩ := setc_sound hdu rs off f r0 vs0 hfn hcr0
            have hcl := CR_length rs r0 hcr0
            have hfit : o' + row.toNat * rs.length + off + [u].length ≤ cs.size := by simp only [List.length_cons, List.length_nil]; omega
            have hg : Chg H Q Q w (w.setRow b (over cs (o' + row.toNat * rs.length + off) [u])) [] nid { del := [], put := [(id, .buf rs (l.modify row.toNat f))] } :=
              chg_in (cs := cs) hw (find_some hsub hfd) rfl (by simp [Ob.kd]) hq hb (by simp [World.setRow]) (fun k hk => setRow_other w b k _ hk) (setRow_heap w b _ _ _ _ hb) (over_size hfit) (fun i hi => by cases hi) (by simp)
            have hst := hg.step hw hf.ob (fun id' ob hl => by
              obtain ⟨rfl, rfl⟩ := look_one hl
              refine .inr ⟨b, o', _, e', fz, hq, setRow_heap w b _ _ _ _ hb, by rw [over_size hfit]; exact hfz, by rw [over_size hfit]; simpa using hsz, fun i' r' hr' => ?_⟩
              rw [List.getElem?_modify] at hr'
              by_cases hii : row.toNat = i'
              · subst hii
                rw [hr0] at hr'
                simp at hr'
                subst hr'
                refine ⟨vs0.set off u, CR_mono rs _ (hg.imm hw) hcr1, fun j v hj => ?_⟩
                rw [List.getElem?_set] at hj
                split at hj
                · rename_i hjj
                  subst hjj
                  have hj : u = v := by simpa [hoff] using hj
                  subst hj
                  have := over_in hfit 0 _ rfl
                  simpa using this
                · rename_i hne
                  rw [over_out hfit, hcs0 j v hj]
                  simp only [List.length_cons, List.length_nil]
                  omega
              · simp only [if_neg hii, Option.map_eq_map, Option.map_id'] at hr'
                obtain ⟨vs, h3, h4⟩ := hrow i' r' hr'
                refine ⟨vs, CR_mono rs r' (hg.imm hw) h3, fun j u hj => ?_⟩
                have hvl2 := CR_length rs r' h3
                have hjlt := (List.getElem?_eq_some_iff.1 hj).1
                rw [over_out hfit, h4 j u hj]
                simp only [List.length_cons, List.length_nil]
                rcases Nat.lt_or_gt_of_ne hii with hgt | hlt'
                · right
                  have : row.toNat * rs.length + rs.length ≤ i' * rs.length := by rw [← Nat.succ_mul]; exact Nat.mul_le_mul_right _ hgt
                  omega
                · left
                  have : i' * rs.length + rs.length ≤ row.toNat * rs.length := by rw [← Nat.succ_mul]; exact Nat.mul_le_mul_right _ hlt'
                  omega)
            exact sim_skip (run_store_block hc ho hy' hb (by simpa using hfz.1) hpos hue hvl hones hfit) hst rfl
          · cases h
      · cases h
    · cases h
  · cases h
end
end Go.Ev
