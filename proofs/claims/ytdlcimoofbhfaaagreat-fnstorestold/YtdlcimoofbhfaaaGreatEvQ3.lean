/- A part of the proof. -/
import Derived.Test.YtdlcimoofbhfaaaGreatEvQ2
set_option linter.all false
set_option linter.constructorNameAsVariable false
set_option linter.unusedVariables false
set_option linter.unusedSimpArgs false
namespace Go.Ev
section
variable {P : Program} {c : Ctx} {H : Hp} {Q : QM} {Im Im' : IM} {w w' : World} {val : Operand → D} {ρ : Operand → Value} {hpE : Heap} {nid : Nat} {o : Oper} {x : D × Dl}
theorem toR_typed {hp : Heap} {sh sh' : Sh} {x : sh'.ty} {y : sh.ty} {i : List Nat} (h : toR hp sh (.v sh' x) = some (y, i)) : ∃ e : sh' = sh, y = e ▸ x ∧ i = [] := by
  have : (castR sh sh' x).map (fun z => (z, ([] : List Nat))) = some (y, i) := by cases sh <;> simpa only [toR] using h
  simp only [Option.map_eq_some_iff, Prod.mk.injEq] at this
  obtain ⟨z, h1, rfl, rfl⟩ := this
  obtain ⟨e, rfl⟩ := castR_eq h1
  exact ⟨e, rfl, rfl⟩
theorem lf_typed {hp : Heap} {l : Lf} {sh : Sh} {x : sh.ty} {y : l.sh.ty} {dl dl' i : List Nat} {u : Value} (h : lfIn hp l (.v sh x) dl = some (y, dl', i)) (hv : VR P sh x w Im u) : LfR P w Im l y u [] ∧ dl' = dl := by
  cases l with
  | r sh' =>
    simp only [lfIn, Option.map_eq_some_iff, Prod.mk.injEq] at h
    obtain ⟨⟨z, j⟩, h1, rfl, rfl, rfl⟩ := h
    obtain ⟨e, rfl, _⟩ := toR_typed h1
    subst e
    exact ⟨by simp only [LfR]; exact ⟨trivial, hv⟩, rfl⟩
  | o rs => simp [lfIn] at h
theorem lfs_typed {hp : Heap} : ∀ {ls : List Lf} {ps : List Sh} {x : tyL ps} {y : tyL (lfShs ls)} {dl dl' i : List Nat} {us : List Value}, lfsIn hp ls (cellsD ps x) dl = some (y, dl', i) → CR P ps x w Im us → LfsR P w Im ls y us [] ∧ dl' = dl
  | [], [], x, y, dl, dl', i, us, h, hv => by
    simp only [cellsD, lfsIn] at h; cases h
    simp only [CR] at hv
    exact ⟨by simp only [LfsR]; exact ⟨hv, trivial⟩, rfl⟩
  | [a], [s], x, y, dl, dl', i, us, h, hv => by
    simp only [cellsD, lfsIn] at h
    simp only [CR] at hv
    obtain ⟨v, rfl, hv⟩ := hv
    obtain ⟨h1, h2⟩ := lf_typed h hv
    exact ⟨by simp only [LfsR]; exact ⟨v, rfl, h1⟩, h2⟩
  | a :: b :: r, s :: t :: q, x, y, dl, dl', i, us, h, hv => by
    simp only [cellsD, lfsIn] at h
    split at h
    · rename_i z dl1 j h1
      split at h
      · rename_i z2 dl2 j2 h2
        cases h
        simp only [CR] at hv
        obtain ⟨v, vs, rfl, h3, h4⟩ := hv
        obtain ⟨h5, rfl⟩ := lf_typed h1 h3
        obtain ⟨h6, rfl⟩ := lfs_typed h2 h4
        exact ⟨by simp only [LfsR]; exact ⟨v, vs, [], [], rfl, rfl, h5, h6⟩, rfl⟩
      · cases h
    · cases h
  | [], [s], x, y, dl, dl', i, us, h, hv => by simp [cellsD, lfsIn] at h
  | [], s :: t :: q, x, y, dl, dl', i, us, h, hv => by simp [cellsD, lfsIn] at h
  | [a], [], x, y, dl, dl', i, us, h, hv => by simp [cellsD, lfsIn] at h
  | [a], s :: t :: q, x, y, dl, dl', i, us, h, hv => by cases q <;> simp [cellsD, lfsIn] at h
  | a :: b :: r, [], x, y, dl, dl', i, us, h, hv => by simp [cellsD, lfsIn] at h
  | a :: b :: r, [s], x, y, dl, dl', i, us, h, hv => by
    simp only [cellsD, lfsIn] at h
    split at h
    · cases r <;> simp [lfsIn] at h
    · cases h
theorem par_typed {hp : Heap} {p : Par} {ag : Bool} {ps : List Sh} {x : tyL ps} {d : D} {y : p.ty} {dl dl' i : List Nat} {us : List Value} {u : Value} (h : parIn hp p d dl = some (y, dl', i)) (hd : unleaf ag (cellsD ps x) = some d)
    (hv : CR P ps x w Im us) (hu : argOf ag us = some u) : ParR P w Im p y u [] [] ∧ dl' = dl := by
  unfold unleaf at hd
  unfold argOf at hu
  cases ag with
  | true =>
    simp only [if_true] at hd hu
    cases hd; cases hu
    cases p with
    | one l =>
      simp only [parIn] at h
      cases l with
      | r sh =>
        simp only [lfIn, Option.map_eq_some_iff, Prod.mk.injEq] at h
        obtain ⟨⟨z, j⟩, h1, _⟩ := h
        cases sh <;> simp [toR] at h1
      | o rs => simp [lfIn] at h
    | agg ls =>
      simp only [parIn] at h
      obtain ⟨h1, h2⟩ := lfs_typed h hv
      exact ⟨by simp only [ParR]; exact ⟨trivial, us, rfl, h1⟩, h2⟩
    | box ls => simp [parIn] at h
  | false =>
    simp only [Bool.false_eq_true, if_false] at hd hu
    have one : ∃ sh, ∃ x' : sh.ty, d = .v sh x' ∧ ∀ us, CR P ps x w Im us → ∃ v, us = [v] ∧ VR P sh x' w Im v := by
      match ps, x, hd with
      | [sh], x, hd => simp only [cellsD] at hd; cases hd; exact ⟨sh, x, rfl, fun us h => by simpa only [CR] using h⟩
      | a :: b :: r, x, hd => cases r <;> simp [cellsD] at hd
    obtain ⟨sh, x', rfl, hone⟩ := one
    obtain ⟨v, rfl, hv9⟩ := hone us hv
    cases hu
    cases p with
    | one l =>
      simp only [parIn] at h
      obtain ⟨h1, h2⟩ := lf_typed h hv9
      exact ⟨by simp only [ParR]; exact ⟨trivial, h1⟩, h2⟩
    | agg ls => simp [parIn] at h
    | box ls => simp [parIn] at h
theorem okB_ok (hc : CtxOk P c) {g : Nat} {S : Sig} {X : S.In} {t : Bool} (h : okB c g S X t) {vs : List Value} {w : World} {Im : IM} (hlt : ∀ b, Im b → b < w.heap.size) (hr : ParsR P w Im S.ins X vs [] []) :
    Calls P g vs.toArray w fun e w' => e = .returned (.bool t) ∧ Keeps w w' := by
  obtain ⟨ins, outs⟩ := S
  unfold okB at h
  split at h
  · rename_i ins' X' heq hX
    cases heq
    cases hX
    refine (hc.okp _ _ _ _ h w Im vs [] [] hlt hr List.nodup_nil (fun b hb => by cases hb)).mono fun e w' hh => ?_
    obtain ⟨v, us, bs', rfl, ha⟩ := hh
    refine ⟨?_, ha.size, fun b hb => ha.kept b hb (by simp), ha.qt⟩
    have ho := ha.out
    simp only [List.length_cons, List.length_nil, Nat.sub_zero, OutR, ParR, LfR, VR] at ho
    obtain ⟨_, u, bx', rfl, _, _, rfl⟩ := ho
    rw [ha.val]
    rfl
  · exact h.elim
theorem took_nil {dl bs : List Nat} (h : Took H Q dl dl bs) : bs = [] := by
  obtain ⟨n, h1, h2, _⟩ := h.ex
  have : n = [] := by
    have := congrArg List.length h1
    simp only [List.length_append] at this
    exact List.length_eq_zero_iff.1 (by omega)
  subst this
  simpa [blk] using h2
theorem caps_sound (hw : ∀ id h, H id = some h → ObR P w Im H.kd Q id h.ob) (hsub : ∀ id h, hpE.find id = some h → H id = some h) {ps : List Par} {ds : List D} {sn : List Nat} {x : parTy ps} {us : List Value}
    (h : parsIn hpE ps ds [] = some (x, [], sn)) (hd : DRL P w Im H.kd Q ds us) : ParsR P w (ImS Q Im sn) ps x us [] [] := by
  obtain ⟨bs, bx, h1, h2, h3, h4, _⟩ := parsIn_sound hw hsub h hd
  have hb := took_nil h2
  subst hb
  have hi : boxIds ps ds = [] := by
    rw [List.eq_nil_iff_forall_not_mem]
    intro i hi
    have := (h4 i hi).1
    cases this
  have : bx = [] := by
    have := h3.1
    rw [hi] at this
    exact List.length_eq_zero_iff.1 this.symm
  subst this
  exact h1
theorem clo_VR (hc : CtxOk P c) (hw : ∀ id h, H id = some h → ObR P w Im H.kd Q id h.ob) (hsub : ∀ id h, hpE.find id = some h → H id = some h) {g : Nat} {S : Sig} (hS : c.sigs g = some S) {caps : List D} {cs : List Value} (hcs : DRL P w Im H.kd Q caps cs)
    (ag : Bool) (ps : List Sh) : VR P (.fn ag ps) (cloRel c g S hpE caps ag ps) w (ImS Q Im (snC c hpE 1 g caps)) (.func (.func g) #[] cs.toArray) := by
  simp only [VR]
  refine ⟨g, cs.toArray, rfl, hc.fn g S hS, fun w' Im' hm hlt x t vs u hp hcr hu => ?_⟩
  unfold cloRel at hp
  split at hp
  · rename_i d hd
    split at hp
    · rename_i X j hX
      have hpr : ParsR P w' Im' S.ins X (u :: cs) [] [] := by
        obtain ⟨ins, outs⟩ := S
        dsimp only at hX ⊢
        match ins, X, hX with
        | [p], X, hX =>
          cases caps with
          | nil =>
            simp only [parsIn] at hX
            simp only [DRL] at hcs
            subst hcs
            obtain ⟨h1, _⟩ := par_typed hX hd hcr hu
            simp only [ParsR]
            exact ⟨u, rfl, h1⟩
          | cons _ _ => simp [parsIn] at hX
        | p :: q :: r, X, hX =>
          simp only [parsIn] at hX
          split at hX
          · rename_i y dl1 i h1
            split at hX
            · rename_i z dl2 k h2
              cases hX
              obtain ⟨h3, rfl⟩ := par_typed h1 hd hcr hu
              have h4 := caps_sound hw hsub h2 hcs
              have h5 : snC c hpE 1 g caps = k := by
                simp only [snC, hS]
                have e9 : parsIn hpE (List.drop 1 (p :: q :: r)) caps [] = some (z, [], k) := h2
                rw [e9]
              rw [h5] at hm
              simp only [ParsR]
              exact ⟨u, cs, [], [], [], [], rfl, rfl, rfl, h3, ParsR_mono hm (fun b hb => by cases hb) h4⟩
            · cases hX
          · cases hX
      have := okB_ok hc hp hlt hpr
      simpa using this
    · exact hp.elim
  · exact hp.elim
theorem clo_VR2 (hc : CtxOk P c) (hw : ∀ id h, H id = some h → ObR P w Im H.kd Q id h.ob) (hsub : ∀ id h, hpE.find id = some h → H id = some h) {g : Nat} {S : Sig} (hS : c.sigs g = some S) {caps : List D} {cs : List Value} (hcs : DRL P w Im H.kd Q caps cs)
    (ps : List Sh) : VR P (.fn2 ps) (cloRel2 c g S hpE caps ps) w (ImS Q Im (snC c hpE 2 g caps)) (.func (.func g) #[] cs.toArray) := by
  simp only [VR]
  refine ⟨g, cs.toArray, rfl, hc.fn g S hS, fun w' Im' hm hlt x y t vs us hp hcr hcr2 => ?_⟩
  unfold cloRel2 at hp
  split at hp
  · rename_i X j hX
    have hd1 : unleaf true (cellsD ps x) = some (.agg (cellsD ps x)) := rfl
    have hd2 : unleaf true (cellsD ps y) = some (.agg (cellsD ps y)) := rfl
    have hpr : ParsR P w' Im' S.ins X (.agg vs.toArray :: .agg us.toArray :: cs) [] [] := by
      obtain ⟨ins, outs⟩ := S
      dsimp only at hX ⊢
      match ins, X, hX with
      | [p], X, hX => simp [parsIn] at hX
      | [p, q], X, hX =>
        simp only [parsIn] at hX
        split at hX
        · rename_i z1 dl1 i1 h1
          cases caps with
          | nil =>
            split at hX
            · rename_i z2 dl2 i2 h2
              cases hX
              simp only [parsIn] at h2
              simp only [DRL] at hcs
              subst hcs
              obtain ⟨h3, rfl⟩ := par_typed h1 hd1 hcr rfl
              obtain ⟨h4, _⟩ := par_typed h2 hd2 hcr2 rfl
              simp only [ParsR]
              exact ⟨_, _, [], [], [], [], rfl, rfl, rfl, h3, _, rfl, h4⟩
            · cases hX
          | cons _ _ => simp [parsIn] at hX
        · cases hX
      | p :: q :: r :: rr, X, hX =>
        simp only [parsIn] at hX
        split at hX
        · rename_i z1 dl1 i1 h1
          split at hX
          · rename_i z2 dl2 i2 h2
            cases hX
            split at h2
            · rename_i z3 dl3 i3 h3
              split at h2
              · rename_i z4 dl4 i4 h4
                cases h2
                obtain ⟨h5, rfl⟩ := par_typed h1 hd1 hcr rfl
                obtain ⟨h6, rfl⟩ := par_typed h3 hd2 hcr2 rfl
                have h7 := caps_sound hw hsub h4 hcs
                have h8 : snC c hpE 2 g caps = i4 := by
                  simp only [snC, hS]
                  have e9 : parsIn hpE (List.drop 2 (p :: q :: r :: rr)) caps [] = some (z4, [], i4) := h4
                  rw [e9]
                rw [h8] at hm
                simp only [ParsR]
                exact ⟨_, _, [], [], [], [], rfl, rfl, rfl, h5, _, cs, [], [], [], [], rfl, rfl, rfl, h6, ParsR_mono hm (fun b hb => by cases hb) h7⟩
              · cases h2
            · cases h2
          · cases hX
        · cases hX
    have := okB_ok hc hp hlt hpr
    simpa using this
  · exact hp.elim
theorem cloD_sound (hc : CtxOk P c) (hw : ∀ id h, H id = some h → ObR P w Im H.kd Q id h.ob) (hsub : ∀ id h, hpE.find id = some h → H id = some h) {p : Par} {d : D} {u : Value} (h : DR P w Im H.kd Q d u) :
    DR P w (ImS Q Im (cloIds c hpE p d)) H.kd Q (cloD c hpE p d) u := by
  have same : DR P w (ImS Q Im (cloIds c hpE p d)) H.kd Q d u := DR_mono (fun b hb => ⟨.inl hb, rfl⟩) d u (fun i _ => ⟨.inr ⟨rfl, rfl, fun b o _ => .inr rfl⟩⟩) h
  unfold cloD
  split
  · rename_i ag ps g caps
    split
    · rename_i S hS
      simp only [DR] at h
      obtain ⟨cs, rfl, hcs⟩ := h
      simp only [DR, cloIds]
      exact clo_VR hc hw hsub hS hcs ag ps
    · simp only [DR]
  · rename_i ps g caps
    split
    · rename_i S hS
      simp only [DR] at h
      obtain ⟨cs, rfl, hcs⟩ := h
      simp only [DR, cloIds]
      exact clo_VR2 hc hw hsub hS hcs ps
    · simp only [DR]
  · exact same
theorem cloDs_sound (hc : CtxOk P c) (hw : ∀ id h, H id = some h → ObR P w Im H.kd Q id h.ob) (hsub : ∀ id h, hpE.find id = some h → H id = some h) : ∀ {ps : List Par} {ds : List D} {us : List Value}, DRL P w Im H.kd Q ds us →
    DRL P w (ImS Q Im (cloIdsL c hpE ps ds)) H.kd Q (cloDs c hpE ps ds) us
  | [], ds, us, h => by
    have : cloDs c hpE [] ds = ds := by cases ds <;> rfl
    rw [this]
    exact DRL_mono (fun b hb => ⟨.inl hb, rfl⟩) ds us (fun i _ => ⟨.inr ⟨rfl, rfl, fun b o _ => .inr rfl⟩⟩) h
  | p :: r, [], us, h => by
    simp only [DRL] at h
    simp only [cloDs, DRL]
    exact h
  | p :: r, d :: ds, us, h => by
    simp only [DRL] at h
    obtain ⟨u, us', rfl, h1, h2⟩ := h
    simp only [cloDs, DRL, cloIdsL]
    exact ⟨u, us', rfl, DR_mono (ImS_sub (by intro k hk; simp [hk]) w) _ u (fun i _ => ⟨.inr ⟨rfl, rfl, fun b o _ => .inr rfl⟩⟩) (cloD_sound hc hw hsub h1),
      DRL_mono (ImS_sub (by intro k hk; simp [hk]) w) _ us' (fun i _ => ⟨.inr ⟨rfl, rfl, fun b o _ => .inr rfl⟩⟩) (cloDs_sound hc hw hsub h2)⟩
end
end Go.Ev
