/- A part of the proof. -/
import Derived.Test.YtdlcimoofbhfaaaGreatEvT7
set_option linter.all false
set_option linter.constructorNameAsVariable false
set_option linter.unusedVariables false
set_option linter.unusedSimpArgs false
namespace Go.Ev
theorem look_filter (D : List Nat) : ∀ (tm : List (Nat × Go.Ev.D)) (s : Nat) (d : Go.Ev.D), look (tm.filter fun x => !D.contains x.1) s = some d → s ∉ D ∧ look tm s = some d
  | [], s, d, h => by simp [look] at h
  | (k, x) :: r, s, d, h => by
    rw [List.filter_cons] at h
    split at h
    · rename_i hk
      simp only [look] at h ⊢
      split at h
      · rename_i e; subst e
        cases h
        exact ⟨by simpa using hk, by simp⟩
      · rename_i e
        rw [if_neg e]
        exact look_filter D r s d h
    · rename_i hk
      obtain ⟨h1, h2⟩ := look_filter D r s d h
      simp only [look]
      refine ⟨h1, ?_⟩
      rw [if_neg]
      · exact h2
      · rintro rfl
        exact h1 (by simpa using hk)
theorem look_filter_mem (D : List Nat) : ∀ (tm : List (Nat × Go.Ev.D)) (s : Nat), s ∉ D → look (tm.filter fun x => !D.contains x.1) s = look tm s
  | [], s, h => rfl
  | (k, x) :: r, s, h => by
    rw [List.filter_cons]
    split
    · simp only [look]
      split
      · rfl
      · exact look_filter_mem D r s h
    · rename_i hk
      rw [look_filter_mem D r s h]
      simp only [look]
      rw [if_neg]
      rintro rfl
      exact h (by simpa using hk)
theorem slots_in (D sl : List Nat) : ∀ (ps : List Pl), plsOk D sl ps = true → ∀ s ls, Pl.bx s ls ∈ ps → s ∉ D ∧ s ∉ sl
  | .t s0 l :: r, h, s, ls, hs => by
    simp only [plsOk] at h
    rcases List.mem_cons.1 hs with hs | hs
    · cases hs
    · exact slots_in D sl r h s ls hs
  | .bx s0 l :: r, h, s, ls, hs => by
    simp only [plsOk, Bool.and_eq_true, Bool.not_eq_true'] at h
    rcases List.mem_cons.1 hs with hs | hs
    · cases hs; exact ⟨by simpa using h.1.1, by simpa using h.1.2⟩
    · exact slots_in D sl r h.2 s ls hs
section
variable {P : Program} {c : Ctx}
theorem rebuild {σ0 σc : LSt} {Bc : Nat} {a0 a : Act} {w0 w : World} {Q0 Q : QM} {Im0 Im : IM} {D : List Nat} {outer : Heap} {ps : List Pl} {v : tyL (plShs ps)} {dl sn : List Nat} {tm' : List (Nat × Go.Ev.D)} {o : List (Nat × Ob)} {nx' : Nat}
    (hI0 : Inv P σ0 σ0.nx a0 w0 Q0 Im0) (hI : Inv P σc Bc a w Q Im) (hl0 : σ0.loc = []) (hlc : σc.loc = []) (hS : Since σ0.nx σ0.hp.find Q0 Im0 w0 σc.hp.find Q Im w) (hT : TK D a0 a)
    (hout : ∀ id h, outer.find id = some h → (∃ h0, σ0.hp.find id = some h0 ∧ h0.ob = h.ob) ∧ ∃ h1, σc.hp.find id = some h1 ∧ h1.ob = h.ob)
    (hro : ∀ id h0, σ0.hp.find id = some h0 → h0.ro = true → outer.find id = some h0)
    (hin : plsIn ps σc.tm σc.hp [] = some (v, dl, sn)) (hap : apart dl sn = true) (hwr : σc.hp.wr sn = true) (hno : ∀ id, id ∈ dl ∨ id ∈ sn → outer.find id = none)
    (hps : plsOk D (plSlots ps) ps = true) (hnd : (plSlots ps).Nodup) (hbs : bxSame ps σ0.tm σc.tm = true)
    (hput : plsOut ps v σ0.nx (σ0.tm.filter fun x => !D.contains x.1) = (tm', o, nx')) (hids : idsOk nx' (.tup (tm'.map (·.2)), { put := o }) = true) :
    ∃ Q2 Im2, Inv P { loc := [], tm := tm', hp := outer.puts o, nx := nx' } nx' a w Q2 Im2 ∧ Since σ0.nx σ0.hp.find Q0 Im0 w0 (outer.puts o).find Q2 Im2 w ∧ ∀ k ∈ keys o, outer.find k = none := by
  have htm : ∀ s d, look σc.tm s = some d → DR P w Im (Hp.kd σc.hp.find) Q d (a.tmps.getD s undef) := by
    intro s d hl
    have := hI.val (.tmp s)
    simp only [LSt.val, Act.eval, LSt.get, hlc, look, hl] at this
    exact this
  obtain ⟨bs, hpl, htook⟩ := plsIn_sound hI.wr.ob (fun _ _ h => h) htm hin
  obtain ⟨n, hn1, hn2, hn3⟩ := htook.ex
  have hdn : dl = n := by simpa using hn1
  subst hdn
  have hndl : dl.Nodup := htook.nd List.nodup_nil
  have hbxs : ∀ s ls, Pl.bx s ls ∈ ps → s ∉ D := fun s ls hm => (slots_in D _ ps hps s ls hm).1
  obtain ⟨A, ids, bx, hB, hbx, hbsub, hbo⟩ := plsOut_sound (tm := σ0.tm.filter fun x => !D.contains x.1) hpl (fun s ls hm => by
    obtain ⟨i, o1, o2, g1, g2⟩ := bxSame_ok hbs s ls hm
    exact ⟨i, o2, o1, g2, by rw [look_filter_mem D _ s (hbxs s ls hm)]; exact g1⟩) (fun s ls hm hs => (slots_in D _ ps hps s ls hm).2 hs) hnd hput
  have hap' : ∀ i ∈ sn, i ∉ dl := fun i hi => by simpa using List.all_eq_true.1 hap i hi
  have hsn : WrOk σc.hp.find sn := wr_ok (fun _ _ h => h) hwr
  have hbn : bs.Nodup := by
    rw [hn2]
    exact blk_nodup hI.wr (fun i hi => by
      obtain ⟨h, h1, _⟩ := hn3 i (by simpa using hi)
      exact ⟨h, h1⟩) (nodup_rev hndl)
  have hbown : ∀ b ∈ bs, ∃ id ∈ dl, ∃ h o, σc.hp.find id = some h ∧ Q id = some (b, o) := by
    intro b hb
    rw [hn2] at hb
    obtain ⟨id, h1, o, h2⟩ := blk_mem hb
    have h1 : id ∈ dl := by simpa using h1
    obtain ⟨h, h3, _⟩ := hn3 id h1
    exact ⟨id, h1, h, o, h3, h2⟩
  have hidl : ∀ i ∈ ids, i ∈ dl := by
    intro i hi
    obtain ⟨b, h, h1, h2, h3, _, _⟩ := hbo i hi
    obtain ⟨id, h4, h5, o, h6, h7⟩ := hbown b h2
    have := hI.wr.inj i id _ _ _ _ _ h3 h6 h1 h7
    subst this
    exact h4
  have hidn : ids.Nodup := bxOf_nodup hbx (hbsub.nodup hbn)
  have hidlt : ∀ i ∈ ids, i < σ0.nx := by
    intro i hi
    obtain ⟨b, h, _, _, _, _, s, ls, hm, hl⟩ := hbo i hi
    obtain ⟨j, o1, o2, g1, g2⟩ := bxSame_ok hbs s ls hm
    rw [hl] at g2
    cases g2
    have := hI0.vb (.tmp s) i (by simp only [LSt.val, LSt.get, hl0, look, g1, idsD, List.mem_singleton])
    exact this
  have hkn := hB.nd hidn (fun i hi hc => by have := hidlt i hi; omega)
  have hkA : (keys A).Nodup := by rw [hB.ks]; exact hkn
  have houtlt : ∀ k h, outer.find k = some h → k < σ0.nx := by
    intro k h hk
    obtain ⟨⟨h0, h1, _⟩, _⟩ := hout k h hk
    exact (hI0.ob k h0 h1).1
  have houtk : ∀ k ∈ keys o, outer.find k = none := by
    intro k hk
    cases e : outer.find k with
    | none => rfl
    | some h =>
      exfalso
      have hlt := houtlt k h e
      rcases hB.rng k hk with h1 | h1
      · omega
      · have := hno k (.inl (hidl k h1)); rw [e] at this; cases this
  have hfind : ∀ i, (outer.puts o).find i = match look o i with | some ob => some ⟨i, false, ob⟩ | none => outer.find i :=
    fun i => find_puts o outer i (fun k hk h hf => by rw [houtk k hk] at hf; cases hf)
  let Q2 : QM := fun i => match look A i with | some p => p | none => Q i
  let Im2 : IM := ImS Q Im sn
  have hagr : Agr A o (Hp.kd (outer.puts o).find) Q2 := by
    constructor
    · intro i p hi
      simp only [Q2, look_of_mem hkA hi]
    · intro i b hi
      simp [Hp.kd, hfind, look_of_mem hkn hi]
  have hQout : ∀ k, k ∉ keys o → Q2 k = Q k := by
    intro k hk
    have : look A k = none := by
      rw [look_none]
      have e := hB.ks
      simp only [keys] at e
      rw [e]; exact hk
    simp only [Q2, this]
  have hval := hB.val _ _ hagr
  have inA : ∀ {i : Nat} {b' : Ob} {b oo : Nat}, look o i = some b' → Q2 i = some (b, oo) → (i, some (b, oo)) ∈ A := by
    intro i b' b oo h1 h2
    have hk : i ∈ keys A := by rw [hB.ks]; exact look_mem h1
    obtain ⟨p, hp⟩ := look_some hk
    simp only [Q2, hp] at h2
    subst h2
    exact mem_of_look hp
  have inBs : ∀ {i b oo : Nat}, (i, some (b, oo)) ∈ A → b ∈ bs := by
    intro i b oo h
    rw [← hB.bl]
    exact List.mem_filterMap.2 ⟨_, h, rfl⟩
  have hbsim : ∀ b ∈ bs, b < w.heap.size ∧ ¬ Im2 b := by
    intro b hb
    obtain ⟨id, h1, h, oo, h2, h3⟩ := hbown b hb
    refine ⟨(hI.wr.own id h b oo h2 h3).1, ?_⟩
    rintro (h4 | ⟨i, h4, o2, h5⟩)
    · exact (hI.wr.own id h b oo h2 h3).2 h4
    · obtain ⟨h6, h7, _⟩ := hsn i h4
      have := hI.wr.inj i id _ _ _ _ _ h7 h2 h5 h3
      subst this
      exact hap' _ h4 h1
  have houtb : ∀ k h b oo, outer.find k = some h → Q k = some (b, oo) → b < w.heap.size ∧ ¬ Im2 b ∧ b ∉ bs := by
    intro k h b oo hk hq
    obtain ⟨_, h1, h2, _⟩ := hout k h hk
    obtain ⟨h3, h4⟩ := hI.wr.own k h1 b oo h2 hq
    refine ⟨h3, ?_, ?_⟩
    · rintro (h5 | ⟨i, h5, o2, h6⟩)
      · exact h4 h5
      · obtain ⟨h7, h8, _⟩ := hsn i h5
        have := hI.wr.inj i k _ _ _ _ _ h8 h2 h6 hq
        subst this
        have := hno _ (.inr h5); rw [hk] at this; cases this
    · intro hb
      obtain ⟨id, g1, g2, o2, g3, g4⟩ := hbown b hb
      have := hI.wr.inj id k _ _ _ _ _ g3 h2 g4 hq
      subst this
      have := hno _ (.inl g1); rw [hk] at this; cases this
  have hrefs : ∀ i, i < σ0.nx → RefOk w w (Hp.kd σc.hp.find) (Hp.kd (outer.puts o).find) Q Q2 i := by
    intro i hi
    cases e : look o i with
    | some ob =>
      rcases hB.rng i (look_mem e) with h1 | h1
      · omega
      · obtain ⟨b, h, g1, g2, g3, g4, _⟩ := hbo i h1
        have hob := hB.obs i ob (mem_of_look e) h1 (by omega)
        have hkA' : i ∈ keys A := by rw [hB.ks]; exact look_mem e
        obtain ⟨p, hp⟩ := look_some hkA'
        obtain ⟨j, b2, k1, k2, k3⟩ := hB.bxs i p (mem_of_look hp) h1 (by omega)
        refine ⟨.inr ⟨?_, ?_, fun b oo _ => .inr rfl⟩⟩
        · simp [Hp.kd, hfind, e, g3, g4, hob]
        · simp only [Q2, hp, k3, hbx.2 j i b2 k1 k2]
    | none =>
      have hnk : i ∉ keys o := (look_none _ _).1 e
      cases e2 : outer.find i with
      | none => exact ⟨.inl (by simp [Hp.kd, hfind, e, e2])⟩
      | some h =>
        obtain ⟨_, h1, h2, h3⟩ := hout i h e2
        exact ⟨.inr ⟨by simp [Hp.kd, hfind, e, e2, h2, h3], hQout i hnk, fun b oo _ => .inr rfl⟩⟩
  have himm : ∀ b, Im b → Im2 b ∧ w.heap[b]? = w.heap[b]? := fun b hb => ⟨.inl hb, rfl⟩
  have hcase : ∀ k h, (outer.puts o).find k = some h → (∃ ob, look o k = some ob ∧ h = ⟨k, false, ob⟩) ∨ (k ∉ keys o ∧ outer.find k = some h) := by
    intro k h hk
    rw [hfind] at hk
    cases e : look o k with
    | some ob => rw [e] at hk; cases hk; exact .inl ⟨ob, rfl, rfl⟩
    | none => rw [e] at hk; exact .inr ⟨(look_none _ _).1 e, hk⟩
  simp only [idsOk, Bool.and_eq_true, List.all_eq_true, decide_eq_true_eq] at hids
  refine ⟨Q2, Im2, ⟨⟨?_, ?_, ?_, ?_⟩, ?_, ?_, ?_⟩, ?_, houtk⟩
  · rintro b (hb | ⟨i, h1, o2, h2⟩)
    · exact hI.wr.imlt b hb
    · obtain ⟨h3, h4, _⟩ := hsn i h1
      exact (hI.wr.own i h3 b o2 h4 h2).1
  · intro k h b oo hk hq
    rcases hcase k h hk with ⟨ob, h1, _⟩ | ⟨h1, h2⟩
    · exact hbsim b (inBs (inA h1 hq))
    · rw [hQout k h1] at hq
      obtain ⟨g1, g2, _⟩ := houtb k h b oo h2 hq
      exact ⟨g1, g2⟩
  · intro k k' h h' b oo oo' hk hk' hq hq'
    rcases hcase k h hk with ⟨ob, h1, _⟩ | ⟨h1, h2⟩ <;> rcases hcase k' h' hk' with ⟨ob', h1', _⟩ | ⟨h1', h2'⟩
    · exact blocks_inj (by rw [hB.bl]; exact hbn) (inA h1 hq) (inA h1' hq')
    · rw [hQout k' h1'] at hq'
      exact absurd (inBs (inA h1 hq)) (houtb k' h' b oo' h2' hq').2.2
    · rw [hQout k h1] at hq
      exact absurd (inBs (inA h1' hq')) (houtb k h b oo h2 hq).2.2
    · rw [hQout k h1] at hq
      rw [hQout k' h1'] at hq'
      obtain ⟨_, x, g1, _⟩ := hout k h h2
      obtain ⟨_, x', g1', _⟩ := hout k' h' h2'
      exact hI.wr.inj k k' x x' b oo oo' g1 g1' hq hq'
  · intro k h hk
    rcases hcase k h hk with ⟨ob, h1, rfl⟩ | ⟨h1, h2⟩
    · exact hval.2 k ob (mem_of_look h1)
    · obtain ⟨⟨h0, g0, g0'⟩, x, g1, g2⟩ := hout k h h2
      have hw := hI.wr.ob k x g1
      have hf := (hI0.ob k h0 g0).2
      rw [g2] at hw
      rw [g0'] at hf
      cases eo : h.ob with
      | box ds =>
        rw [eo] at hw hf
        obtain ⟨b, us, e, fz, a1, a2, a3, a4⟩ := hw
        exact ⟨b, us, e, fz, by rw [hQout k h1]; exact a1, a2, a3, DRL_mono himm ds us (fun i hi => hrefs i (hf i hi)) a4⟩
      | buf rs l =>
        rw [eo] at hw
        rcases hw with hw | ⟨b, oo, cs, e, fz, a1, a2, a3, a4, a5⟩
        · exact .inl ⟨by rw [hQout k h1]; exact hw.1, hw.2⟩
        · refine .inr ⟨b, oo, cs, e, fz, by rw [hQout k h1]; exact a1, a2, a3, a4, fun i r hr => ?_⟩
          obtain ⟨vs, b1, b2⟩ := a5 i r hr
          exact ⟨vs, CR_mono rs r himm b1, b2⟩
  · intro y
    cases y with
    | tmp s =>
      simp only [LSt.val, LSt.get, look]
      cases e : look tm' s with
      | none => simp only [DR]
      | some d =>
        obtain ⟨g1, g2⟩ := hval.1 s d e
        dsimp only
        by_cases hs : s ∈ plSlots ps
        · exact g1 hs
        · obtain ⟨g3, g4⟩ := look_filter D σ0.tm s d (g2 hs)
          have h1 := hI0.val (.tmp s)
          have h2 := hI0.vb (.tmp s)
          simp only [LSt.val, LSt.get, hl0, look, g4, Act.eval] at h1 h2
          have h3 := DR_mono (w' := w) (Im' := Im) (K' := Hp.kd σc.hp.find) (Q' := Q) hS.im0 d _ (fun i hi => hS.refs i (h2 i hi)) h1
          have h4 := DR_mono himm d _ (fun i hi => hrefs i (h2 i hi)) h3
          simp only [Act.eval, hT.same s g3]
          exact h4
    | const v => simp only [LSt.val, Act.eval]; exact DR_ofVal v
    | func f => simp only [LSt.val, Act.eval, DR]; exact ⟨[], rfl, by simp only [DRL]⟩
    | global g => simp only [LSt.val, DR]
  · intro k h hk
    rcases hcase k h hk with ⟨ob, h1, rfl⟩ | ⟨h1, h2⟩
    · have := hids.2 (k, ob) (mem_of_look h1)
      refine ⟨this.1, fun i hi => ?_⟩
      cases ob with
      | box ds =>
        have h2 := this.2
        simp only [List.all_eq_true, decide_eq_true_eq] at h2
        exact h2 i hi
      | buf rs l => cases hi
    · obtain ⟨⟨h0, g0, g0'⟩, _⟩ := hout k h h2
      have hle := hB.le
      have := hI0.ob k h0 g0
      rw [g0'] at this
      exact ⟨Nat.lt_of_lt_of_le this.1 hle, fun i hi => Nat.lt_of_lt_of_le (this.2 i hi) hle⟩
  · intro y
    cases y with
    | tmp s =>
      simp only [LSt.val, LSt.get, look]
      cases e : look tm' s with
      | none => intro i hi; cases hi
      | some d =>
        intro i hi
        dsimp only at hi
        refine hids.1 i ?_
        have : d ∈ tm'.map (·.2) := List.mem_map.2 ⟨_, mem_of_look e, rfl⟩
        simp only [idsD]
        generalize tm'.map (·.2) = l at this
        induction l with
        | nil => cases this
        | cons x r ih =>
          simp only [idsL, List.mem_append]
          rcases List.mem_cons.1 this with rfl | h
          · exact .inl hi
          · exact .inr (ih h)
    | const v => simp only [LSt.val, idsD_ofVal]; intro i hi; cases hi
    | func f => simp only [LSt.val, idsD, idsL]; intro i hi; cases hi
    | global g => simp only [LSt.val, idsD]; intro i hi; cases hi
  · refine ⟨hS.qt, hS.size, hS.kept, ?_, ?_, ?_, ?_, ?_⟩
    · intro k h b oo hk hq
      rcases hcase k h hk with ⟨ob, h1, _⟩ | ⟨h1, h2⟩
      · obtain ⟨id, g1, g2, o2, g3, g4⟩ := hbown b (inBs (inA h1 hq))
        exact hS.own id g2 b o2 g3 g4
      · rw [hQout k h1] at hq
        obtain ⟨_, x, g1, _⟩ := hout k h h2
        exact hS.own k x b oo g1 hq
    · rintro b (hb | ⟨i, h1, o2, h2⟩)
      · exact hS.im b hb
      · obtain ⟨h3, h4, _⟩ := hsn i h1
        exact .inr (hS.own i h3 b o2 h4 h2)
    · intro b hb
      obtain ⟨h1, h2⟩ := hS.im0 b hb
      exact ⟨.inl h1, h2⟩
    · intro i hi
      exact (hS.refs i hi).trans (hrefs i hi)
    · intro k h0 h1 h2
      have h3 := hro k h0 h1 h2
      rw [hfind]
      cases e : look o k with
      | some ob => have := houtk k (look_mem e); rw [h3] at this; cases this
      | none => exact h3
end
end Go.Ev
