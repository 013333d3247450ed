/- A part of the proof. -/
import Derived.Test.YtdlcimoofbhfaaaGreatEvP4
set_option linter.all false
set_option linter.constructorNameAsVariable false
set_option linter.unusedVariables false
set_option linter.unusedSimpArgs false
namespace Go.Ev
section
variable {P : Program} {c : Ctx} {H : Hp} {Q : QM} {Im : IM} {w : World} {val : Operand → D} {ρ : Operand → Value} {hpE : Heap} {nid : Nat} {o : Oper} {x : D × Dl}
theorem chg_same {id : Nat} {h : HO} {ob : Ob} {w' : World} (hw : WR P H Q Im w) (hid : H id = some h) (hro : h.ro = false) (hk : h.ob.kd = ob.kd) (hp : (w'.heap, outside w') = (w.heap, outside w)) :
    Chg H Q Q w w' [] nid { del := [], put := [(id, ob)] } :=
  have hh : w'.heap = w.heap := congrArg Prod.fst hp
  {
  qt := congrArg Prod.snd hp
  grow := by rw [hh]; exact Nat.le_refl _
  bs := fun _ _ k _ _ _ _ => .inr (by simp only [bsize, hh])
  ch := fun k _ => .inl (by rw [hh])
  qs := fun _ _ => rfl
  fro := fun s hs => by cases hs
  del := fun s hs => by cases hs
  kd := fun i ob' hl => by
    obtain ⟨rfl, rfl⟩ := look_one hl
    exact .inr ⟨h, hid, hro, hk, rfl⟩
  own := fun i ob' b2 o2 hl hq2 => by
    obtain ⟨rfl, rfl⟩ := look_one hl
    exact ⟨by rw [hh]; exact (hw.own _ _ _ _ hid hq2).1, .inr ⟨i, h, o2, by simp [Dl.ids], by simp, hid, hq2⟩⟩
  inj := fun i i' ob1 ob2 b2 o2 o3 h1 h2 _ _ => by
    rw [(look_one h1).1, (look_one h2).1] }
theorem zeroCells_rep (z : Array Value) (n : Nat) : (Builtin.zeroCells z n).toList = (List.replicate n z.toList).flatten := by
  have hl : ((List.replicate n z.toList).flatten).length = n * z.size := by simp
  apply List.ext_getElem?
  intro j
  by_cases hj : j < n * z.size
  · have h0 : 0 < z.size := by
      rcases Nat.eq_zero_or_pos z.size with h | h
      · rw [h] at hj; omega
      · exact h
    have h1 : (List.replicate n z.toList).flatten[j]? = some ((List.replicate n z.toList).flatten[j]'(by rw [hl]; exact hj)) := List.getElem?_eq_getElem (by rw [hl]; exact hj)
    obtain ⟨h2, _⟩ := rep_get n z.size z.toList j _ (by simp) h0 h1
    have hm := Nat.mod_lt j h0
    rw [Array.getElem?_toList, Array.getElem?_eq_getElem hm] at h2
    rw [h1, Array.getElem?_toList]
    simp only [Builtin.zeroCells, Array.getElem?_map]
    rw [Array.getElem?_range, if_pos hj, Option.map_some, getElem!_pos z _ hm]
    exact h2
  · rw [List.getElem?_eq_none (by rw [Array.length_toList, size_zeroCells]; omega), List.getElem?_eq_none (by rw [hl]; omega)]
theorem toList1 {α : Type} {a : Array α} {b : α} (h : a.toList = [b]) : a = #[b] := by rw [← Array.toArray_toList (xs := a), h]
theorem toList2 {α : Type} {a : Array α} {b c : α} (h : a.toList = [b, c]) : a = #[b, c] := by rw [← Array.toArray_toList (xs := a), h]
theorem sim_clear (hc : CtxOk P c) (hw : WR P H Q Im w) (hv : ∀ x, DR P w Im H.kd Q (val x) (ρ x)) (hsub : ∀ id h, hpE.find id = some h → H id = some h) (hf : Fr H val nid) {cl : Call} (ho : o.op = .call cl) (hb : cl.callee = .builtin .clear)
    (h : Reach c.okp (evOp c val hpE nid (.call cl)) x) : Sim P H Q Im w ρ o nid x := by
  simp only [evOp, hb] at h
  split at h
  · rename_i y t ha ht
    obtain ⟨rs', hrs, h⟩ := reach_ofO h
    obtain ⟨e, ht', hel⟩ := elemSh_ok hc hrs
    have hy := hv y
    obtain ⟨consts, hrun⟩ := run_call_builtin (P := P) (w := w) (ρ := ρ) ho hb
    unfold clearEv at h
    split at h
    · rename_i id lo hi ev
      split at h
      · rename_i i rs l hfd
        split at h
        · rename_i heq _
          obtain ⟨heq⟩ := heq
          subst heq
          obtain ⟨z, hz, h⟩ := reach_ofO h
          cases h
          have hk : H.kd id = some (.buf rs'.length l.length) := by rw [find_kd hsub hfd]; rfl
          rw [ev] at hy; simp only [DR] at hy
          obtain ⟨g1, g2, g3⟩ := hy.2 _ _ hk
          have same : hi = lo → (∃ a k, ρ y = .slice a 0 k) → Sim P H Q Im w ρ o nid (.un, { put := [(id, .buf rs' (l.take lo ++ List.replicate (hi - lo) z ++ l.drop hi))] }) := by
            rintro rfl ⟨a, k, hy'⟩
            have hob : (l.take hi ++ List.replicate (hi - hi) z ++ l.drop hi) = l := by simp
            rw [hob]
            have hg : Chg H Q Q w w [] nid { del := [], put := [(id, .buf rs' l)] } := chg_same hw (find_some hsub hfd) rfl rfl rfl
            have hst := hg.step hw hf.ob (fun id' ob hl => by
              obtain ⟨rfl, rfl⟩ := look_one hl
              rcases find_ob hw hsub hfd with h1 | ⟨b, o', cs, e', fz, a1, a2, a3, a4, a5⟩
              · exact .inl h1
              · refine .inr ⟨b, o', cs, e', fz, a1, a2, a3, a4, fun i r hr => ?_⟩
                obtain ⟨vs, b1, b2⟩ := a5 i r hr
                exact ⟨vs, CR_mono rs' r (hg.imm hw) b1, b2⟩)
            refine sim_of (u := .tuple #[]) ?_ hst (by simp only [DR])
            rw [hrun]
            simp only [builtin, Builtin.clear_, toList1 ha, toList1 ht, hy']
            cases a <;> simp [run_underlying ht', hy']
          rcases g3 with ⟨_, h0, hy'⟩ | ⟨b, o', cap, hq, hcap1, hcap2, hy' | ⟨h5, _, hy'⟩⟩
          · exact same (by omega) ⟨_, _, hy'⟩
          · by_cases h5 : hi = lo
            · exact same h5 ⟨_, _, by rw [hy', h5, Nat.sub_self]⟩
            · rcases (find_ob hw hsub hfd).rows with ⟨hq', _⟩ | ⟨b', o'', cs, e', fz, us, hq', hbk, hfz, hsz, hrows, hcs⟩
              · rw [hq] at hq'; cases hq'
              · rw [hq] at hq'; cases hq'
                obtain ⟨ti, zv, hi1, hsz1, _, _, hzv, hzc⟩ := hel.info
                have hzl := zeroCells_length _ _ hzc
                have hzs : zv.cells.size = rs'.length := by rw [← Array.length_toList]; exact hzl
                have hcr := zeroT_R (P := P) (w := w) (Im := Im) (K := H.kd) rs' z _ hz hzc
                have hul := hrows.length
                let news := (List.replicate (hi - lo) zv.cells.toList).flatten
                have hnl : news.length = (hi - lo) * rs'.length := by simp [news, hzs]
                have hnr : Rows P w Im rs' (List.replicate (hi - lo) z) news := Rows.replicate hcr _
                have hm1 : lo * rs'.length + (hi - lo) * rs'.length = hi * rs'.length := by rw [← Nat.add_mul]; congr 1; omega
                have hm2 : hi * rs'.length ≤ l.length * rs'.length := Nat.mul_le_mul_right _ g2
                have hle : lo * rs'.length + news.length ≤ us.length := by rw [hnl, hul]; omega
                have hfit : o' + lo * rs'.length + news.length ≤ cs.size := by rw [hnl]; omega
                have hg : Chg H Q Q w (w.setRow b (over cs (o' + lo * rs'.length) news)) [] nid { del := [], put := [(id, .buf rs' (l.take lo ++ List.replicate (hi - lo) z ++ l.drop hi))] } :=
                  chg_in (cs := cs) hw (find_some hsub hfd) rfl (by simp [Ob.kd]; omega) hq hbk (by simp [World.setRow]) (fun k hk => setRow_other w b k _ hk) (setRow_heap w b _ _ _ _ hbk) (over_size hfit) (fun i hi => by cases hi) (by simp)
                have hst := hg.step hw hf.ob (fun id' ob hl => by
                  obtain ⟨rfl, rfl⟩ := look_one hl
                  refine ObR.mk (us := us.take (lo * rs'.length) ++ news ++ us.drop (hi * rs'.length)) hq (setRow_heap w b _ _ _ _ hbk) (by rw [over_size hfit]; exact hfz) ?_ ?_ ?_
                  · exact ((((hrows.take lo).append hnr).append (hrows.drop hi)).mono (hg.imm hw))
                  · have := over_mid hcs hle (by omega)
                    rwa [hnl, hm1] at this
                  · rw [over_size hfit]
                    have : (l.take lo ++ List.replicate (hi - lo) z ++ l.drop hi).length = l.length := by simp; omega
                    rw [this]; exact hsz)
                refine sim_of (u := .tuple #[]) ?_ hst (by simp only [DR])
                rw [hrun]
                have hst2 := run_storeCells_fz (P := P) b (o' + lo * rs'.length) e' fz news 0 cs w hbk hfz.1 (by simpa using hfit) (hnr.ones)
                simp only [Nat.add_zero] at hst2
                have hne : hi - lo ≠ 0 := by omega
                obtain ⟨k, hk2⟩ := Nat.exists_eq_succ_of_ne_zero hne
                have hzr : (Builtin.zeroCells zv.cells (hi - lo)).toList = news := zeroCells_rep zv.cells (hi - lo)
                simp only [builtin, Builtin.clear_, toList1 ha, toList1 ht, hy', List.map_toArray]
                rw [hk2] at hy' hzr
                clear_value news
                simp [run_underlying ht', hy', run_zeroValue hi1 hzv, hzr, hst2]
          · exact same h5 ⟨_, _, hy'⟩
        · cases h
      · cases h
    · cases h
  · cases h
end
end Go.Ev
