/- A part of the proof. -/
import Derived.Test.YtdlcimoofbhfaaaGreatEvT8
set_option linter.all false
set_option linter.constructorNameAsVariable false
set_option linter.unusedVariables false
set_option linter.unusedSimpArgs false
namespace Go.Ev
theorem find_roAll : ∀ (hp : Heap) (i : Nat), hp.roAll.find i = (hp.find i).map fun h => { h with ro := true }
  | [], i => rfl
  | x :: r, i => by
    have ih := find_roAll r i
    simp only [Heap.roAll] at ih
    simp only [Heap.roAll, List.map_cons, Heap.find]
    split
    · rfl
    · exact ih
theorem find_unRo (old : Heap) : ∀ (hp : Heap) (i : Nat), (unRo old hp).find i = (hp.find i).map fun h => match old.find i with | some o => { h with ro := o.ro } | none => h
  | [], i => rfl
  | x :: r, i => by
    have ih := find_unRo old r i
    simp only [unRo] at ih
    simp only [unRo, List.map_cons, Heap.find]
    cases eo : old.find x.id with
    | none =>
      dsimp only
      by_cases e : x.id = i
      · rw [if_pos e, if_pos e]; subst e; simp [eo]
      · rw [if_neg e, if_neg e]; exact ih
    | some o =>
      dsimp only
      by_cases e : x.id = i
      · rw [if_pos e, if_pos e]; subst e; simp [eo]
      · rw [if_neg e, if_neg e]; exact ih
theorem kd_unRo (old hp : Heap) : Hp.kd (unRo old hp).find = Hp.kd hp.find := by
  funext i
  simp only [Hp.kd, find_unRo]
  cases hp.find i with
  | none => rfl
  | some h => simp only [Option.map_some]; split <;> rfl
theorem find_unRo_ob {old hp : Heap} {i : Nat} {h : HO} (hf : (unRo old hp).find i = some h) : ∃ h', hp.find i = some h' ∧ h'.ob = h.ob := by
  rw [find_unRo] at hf
  cases e : hp.find i with
  | none => rw [e] at hf; cases hf
  | some h' =>
    rw [e] at hf
    simp only [Option.map_some, Option.some.injEq] at hf
    refine ⟨h', rfl, ?_⟩
    rw [← hf]
    split <;> rfl
theorem bxSame_refl : ∀ {ps : List Pl} {tm : List (Nat × D)} {hp : Heap} {dl : List Nat} {r : tyL (plShs ps) × List Nat × List Nat}, plsIn ps tm hp dl = some r → bxSame ps tm tm = true
  | [], tm, hp, dl, r, h => rfl
  | .t s l :: [], tm, hp, dl, r, h => rfl
  | .bx s ls :: [], tm, hp, dl, r, h => by
    simp only [plsIn, plIn] at h
    simp only [bxSame, Bool.and_true]
    split at h
    · rename_i d e
      rw [e]
      cases d <;> simp only [parIn] at h <;> first | (cases h; done) | simp
    · cases h
  | .t s l :: q :: r', tm, hp, dl, r, h => by
    simp only [plsIn] at h
    split at h
    · split at h
      · rename_i h2
        have := bxSame_refl h2
        simp only [bxSame]; simpa only [bxSame] using this
      · cases h
    · cases h
  | .bx s ls :: q :: r', tm, hp, dl, r, h => by
    simp only [plsIn] at h
    split at h
    · rename_i h1
      split at h
      · rename_i h2
        have := bxSame_refl h2
        simp only [bxSame, Bool.and_eq_true]
        refine ⟨?_, by simpa only [bxSame] using this⟩
        simp only [plIn] at h1
        split at h1
        · rename_i d e
          rw [e]
          cases d <;> simp only [parIn] at h1 <;> first | (cases h1; done) | simp
        · cases h1
      · cases h
    · cases h
theorem lfD_le (l : Lf) (x : l.sh.ty) (n : Nat) : n ≤ (lfD l x n).2.2 := by
  cases l <;> simp [lfD]
theorem lfsD_le : ∀ (ls : List Lf) (x : tyL (lfShs ls)) (n : Nat), n ≤ (lfsD ls x n).2.2
  | [], x, n => Nat.le_refl _
  | [a], x, n => lfD_le a x n
  | a :: c :: r, x, n => by
    simp only [lfsD]
    exact Nat.le_trans (lfD_le a x.1 n) (lfsD_le (c :: r) x.2 _)
theorem plOut_le (p : Pl) (x : p.sh.ty) (n : Nat) (tm : List (Nat × D)) : n ≤ (plOut p x n tm).2.2 := by
  cases p with
  | t s l => exact lfD_le l x n
  | bx s ls =>
    simp only [plOut]
    have := lfsD_le ls x n
    split <;> exact this
theorem plsOut_le : ∀ (ps : List Pl) (x : tyL (plShs ps)) (n : Nat) (tm : List (Nat × D)), n ≤ (plsOut ps x n tm).2.2
  | [], x, n, tm => Nat.le_refl _
  | [p], x, n, tm => plOut_le p x n tm
  | p :: q :: r, x, n, tm => by
    simp only [plsOut]
    exact Nat.le_trans (plOut_le p x.1 n tm) (plsOut_le (q :: r) x.2 _ _)
section
variable {P : Program} {c : Ctx} {R : Type} {Qf : R → Prop}
theorem Inv.unRo {σ : LSt} {old : Heap} {B : Nat} {a : Act} {w : World} {Q : QM} {Im : IM} (h : Inv P σ B a w Q Im) : Inv P { σ with hp := Go.Ev.unRo old σ.hp } B a w Q Im := by
  refine ⟨⟨h.wr.imlt, ?_, ?_, ?_⟩, ?_, ?_, h.vb⟩
  · intro id x b o h1 h2
    obtain ⟨x', g1, _⟩ := find_unRo_ob h1
    exact h.wr.own id x' b o g1 h2
  · intro id id' x x' b o o' h1 h2 h3 h4
    obtain ⟨y, g1, _⟩ := find_unRo_ob h1
    obtain ⟨y', g2, _⟩ := find_unRo_ob h2
    exact h.wr.inj id id' y y' b o o' g1 g2 h3 h4
  · intro id x h1
    obtain ⟨y, g1, g2⟩ := find_unRo_ob h1
    have := h.wr.ob id y g1
    rw [g2] at this
    dsimp only
    rw [kd_unRo]
    exact this
  · intro y
    dsimp only
    rw [kd_unRo]
    exact h.val y
  · intro id x h1
    obtain ⟨y, g1, g2⟩ := find_unRo_ob h1
    have := h.ob id y g1
    rw [g2] at this
    exact this
theorem sound_loop {b : Code} (hb : Sound P c Qf b) : Sound P c Qf (.loop b) := by
  intro n σ Kc As a w Q Im Qp hl hloc hI hd hs hQ
  rw [ev] at hs
  split at hs
  · simp [sat] at hs
  rename_i ps hps0
  cases hin : plsIn ps σ.tm σ.hp [] with
  | none => rw [hin] at hs; simp [sat] at hs
  | some r =>
  obtain ⟨v0, dl, sn⟩ := r
  rw [hin] at hs
  dsimp only at hs
  split at hs
  · rename_i hcond
    simp only [Bool.and_eq_true] at hcond
    obtain ⟨⟨⟨hps, hnd⟩, hap⟩, hwr⟩ := hcond
    have hnd' : (plSlots ps).Nodup := by
      clear hin hs hps
      generalize plSlots ps = l at hnd
      induction l with
      | nil => simp
      | cons x r ih =>
        simp only [nodup, Bool.and_eq_true, Bool.not_eq_true'] at hnd
        exact List.nodup_cons.2 ⟨by simpa using hnd.1, ih hnd.2⟩
    simp only [sat] at hs
    let outer : Heap := ((σ.hp.dels dl).dels sn).roAll
    have houter : ∀ i h, outer.find i = some h → i ∉ dl ∧ i ∉ sn ∧ h.ro = true ∧ ∃ h0, σ.hp.find i = some h0 ∧ h0.ob = h.ob := by
      intro i h hf
      simp only [outer, find_roAll, find_dels] at hf
      by_cases h1 : i ∈ sn
      · rw [if_pos h1] at hf; cases hf
      · by_cases h2 : i ∈ dl
        · rw [if_neg h1, if_pos h2] at hf; cases hf
        · rw [if_neg h1, if_neg h2] at hf
          cases e : σ.hp.find i with
          | none => rw [e] at hf; cases hf
          | some h0 => rw [e] at hf; cases hf; exact ⟨h2, h1, rfl, h0, rfl, rfl⟩
    have htm : ∀ s d, look σ.tm s = some d → DR P w Im (Hp.kd σ.hp.find) Q d (a.tmps.getD s undef) := by
      intro s d hl
      have := hI.val (.tmp s)
      simp only [LSt.val, Act.eval, LSt.get, hloc, look, hl] at this
      exact this
    obtain ⟨bs, _, htook⟩ := plsIn_sound hI.wr.ob (fun _ _ h => h) htm hin
    obtain ⟨nn, hn1, hn2, hn3⟩ := htook.ex
    have hdn : dl = nn := by simpa using hn1
    subst hdn
    have hsn : WrOk σ.hp.find sn := wr_ok (fun _ _ h => h) hwr
    have hro : ∀ id h0, σ.hp.find id = some h0 → h0.ro = true → outer.find id = some h0 := by
      intro i h0 h1 h2
      have g1 : i ∉ sn := fun hi => by obtain ⟨h, g1, g2⟩ := hsn i hi; rw [h1] at g1; cases g1; rw [h2] at g2; cases g2
      have g2 : i ∉ dl := fun hi => by obtain ⟨h, g1, g2⟩ := hn3 i hi; rw [h1] at g1; cases g1; rw [h2] at g2; cases g2
      simp only [outer, find_roAll, find_dels, if_neg g1, if_neg g2, h1]
      obtain ⟨i0, r0, o0⟩ := h0
      dsimp only at h2
      subst h2
      rfl
    let tm0 := σ.tm.filter fun x => !(dsts b).contains x.1
    let idOk : tyL (plShs ps) → Prop := fun v => idsOk (plsOut ps v σ.nx tm0).2.2 (.tup ((plsOut ps v σ.nx tm0).1.map (·.2)), { put := (plsOut ps v σ.nx tm0).2.1 }) = true
    let G : tyL (plShs ps) → Act → World → Prop := fun v a' w' => ∃ Q2 Im2, Inv P { loc := [], tm := (plsOut ps v σ.nx tm0).1, hp := outer.puts (plsOut ps v σ.nx tm0).2.1, nx := (plsOut ps v σ.nx tm0).2.2 } (plsOut ps v σ.nx tm0).2.2 a' w' Q2 Im2 ∧
      Since σ.nx σ.hp.find Q Im w (outer.puts (plsOut ps v σ.nx tm0).2.1).find Q2 Im2 w' ∧ ∀ k ∈ keys (plsOut ps v σ.nx tm0).2.1, outer.find k = none
    let X : tyL (plShs ps) → Prop := fun v => ∀ a' w', TK (dsts b) a a' → (idOk v → G v a' w') → wpIn P b Qp a' w'
    refine wp_loop_in (hs X ?_ a w TK.refl ?_)
    rotate_left
    · intro hid
      obtain ⟨Q2, Im2, g1, g2, g3⟩ := rebuild (σ0 := σ) (σc := σ) (D := dsts b) (outer := outer) hI hI hloc hloc Since.refl TK.refl (fun i h hf => by
        obtain ⟨_, _, _, h0, k1, k2⟩ := houter i h hf
        exact ⟨⟨h0, k1, k2⟩, h0, k1, k2⟩) hro hin hap hwr (fun i hi => by
        cases e : outer.find i with
        | none => rfl
        | some h =>
          obtain ⟨k1, k2, _⟩ := houter i h e
          rcases hi with hi | hi
          · exact absurd hi k1
          · exact absurd hi k2) hps hnd' (bxSame_refl hin) rfl hid
      exact ⟨Q2, Im2, g1, g2, g3⟩
    · intro v hv a1 w1 hT1 hG
      obtain ⟨hid, hs1⟩ := sat_chk hv
      obtain ⟨Q1, Im1, hI1, hS1, hk1⟩ := hG hid
      refine wpIn_step (hb (n + 1) _ _ (As ++ [⟨plShs ps, X⟩]) a1 w1 Q1 Im1 _ (by simp [hl]) rfl hI1 (fun d h => by rw [hT1.size]; exact hd d (by simpa [dsts] using h)) hs1 ?_)
      intro m e σ' As' a2 w2 Q2 Im2 hlen ⟨ext, hext⟩ hloc2 hI2 hS2 hT2 hnx2 hs2
      have hle : σ.nx ≤ (plsOut ps v σ.nx tm0).2.2 := plsOut_le ps v σ.nx tm0
      have hS12 := hS1.trans hS2 hle
      have hT12 := hT1.trans hT2
      have hT12' : TK (dsts (.loop b)) a a2 := hT12.mono (by intro d h; simpa [dsts] using h)
      have hrest : ∀ e, sat c.okp (Kc m e { σ' with hp := unRo σ.hp σ'.hp }) As' Qf → Qp (exOf e) a2 w2 := by
        intro e hs3
        refine hQ m e { σ' with hp := unRo σ.hp σ'.hp } As' a2 w2 Q2 Im2 hlen ⟨_, by rw [hext, List.append_assoc]⟩ hloc2 hI2.unRo ?_ hT12' (Nat.le_trans hle hnx2) hs3
        refine ⟨hS12.qt, hS12.size, hS12.kept, ?_, hS12.im, hS12.im0, ?_, ?_⟩
        · intro id x b' o h1 h2
          obtain ⟨y, g1, _⟩ := find_unRo_ob h1
          exact hS12.own id y b' o g1 h2
        · intro id hid
          dsimp only
          rw [kd_unRo]
          exact hS12.refs id hid
        · intro id x h1 h2
          have := hS12.ro id x h1 h2
          dsimp only
          rw [find_unRo, this]
          simp only [Option.map_some, h1]
      cases e with
      | exit k => exact hrest (.exit k) hs2
      | ret => exact hrest .ret hs2
      | normal =>
        dsimp only at hs2
        simp only [Exit.then]
        split at hs2
        · rename_i v' dl' sn' hin'
          split at hs2
          · rename_i hcond'
            simp only [Bool.and_eq_true] at hcond'
            obtain ⟨⟨hap', hwr'⟩, hbx'⟩ := hcond'
            simp only [sat] at hs2
            obtain ⟨A, hA, hAv⟩ := hs2
            have : As'[n]? = some ⟨plShs ps, X⟩ := by
              rw [hext, List.append_assoc, List.getElem?_append_right (by omega)]
              simp [hl]
            rw [this] at hA
            have hA' : X = A := by
              have := Option.some.inj hA
              simpa using this
            subst hA'
            refine hAv a2 w2 hT12 fun hid' => ?_
            have hcur : ∀ i h, outer.find i = some h → σ'.hp.find i = some h := by
              intro i h hf
              refine hS2.ro i h ?_ (houter i h hf).2.2.1
              rw [find_puts _ outer i (fun k hk h hf => by rw [hk1 k hk] at hf; cases hf)]
              cases e : look (plsOut ps v σ.nx tm0).2.1 i with
              | none => exact hf
              | some ob => have := hk1 i (look_mem e); rw [hf] at this; cases this
            have htm' : ∀ s d, look σ'.tm s = some d → DR P w2 Im2 (Hp.kd σ'.hp.find) Q2 d (a2.tmps.getD s undef) := by
              intro s d hl
              have := hI2.val (.tmp s)
              simp only [LSt.val, Act.eval, LSt.get, hloc2, look, hl] at this
              exact this
            obtain ⟨bs', _, htook'⟩ := plsIn_sound hI2.wr.ob (fun _ _ h => h) htm' hin'
            obtain ⟨nn', hn1', hn2', hn3'⟩ := htook'.ex
            have hdn' : dl' = nn' := by simpa using hn1'
            subst hdn'
            have hsn' : WrOk σ'.hp.find sn' := wr_ok (fun _ _ h => h) hwr'
            obtain ⟨Q3, Im3, g1, g2, g3⟩ := rebuild (σ0 := σ) (σc := σ') (D := dsts b) (outer := outer) hI hI2 hloc hloc2 hS12 hT12 (fun i h hf => by
              obtain ⟨_, _, _, h0, k1, k2⟩ := houter i h hf
              exact ⟨⟨h0, k1, k2⟩, h, hcur i h hf, rfl⟩) hro hin' hap' hwr' (fun i hi => by
              cases e : outer.find i with
              | none => rfl
              | some h =>
                have k1 := hcur i h e
                have k2 := (houter i h e).2.2.1
                rcases hi with hi | hi
                · obtain ⟨h', k3, k4⟩ := hn3' i hi
                  rw [k1] at k3; cases k3; rw [k2] at k4; cases k4
                · obtain ⟨h', k3, k4⟩ := hsn' i hi
                  rw [k1] at k3; cases k3; rw [k2] at k4; cases k4) hps hnd' hbx' rfl hid'
            exact ⟨Q3, Im3, g1, g2, g3⟩
          · simp [sat] at hs2
        · simp [sat] at hs2
  · simp [sat] at hs
end
end Go.Ev
