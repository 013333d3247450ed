/- A part of the proof. -/
import Derived.Test.YtdlcimoofbhfaaaGreatEvT5
set_option linter.all false
set_option linter.constructorNameAsVariable false
set_option linter.unusedVariables false
set_option linter.unusedSimpArgs false
namespace Go.Ev
section
variable {P : Program} {H : Hp} {Q : QM} {Im : IM} {w : World} {hpE : Heap} {tm : List (Nat × D)} {f : Nat → Value}
def PlR (P : Program) (w : World) (Im : IM) (H : Hp) (Q : QM) (f : Nat → Value) (tm : List (Nat × D)) (p : Pl) (x : p.sh.ty) (bs : List Nat) : Prop :=
  match p, x with
  | .t s l, x => LfR P w Im l x (f s) bs
  | .bx s ls, x => ∃ id b vs bs' e fz, (∃ h, H id = some h ∧ h.ob.kd = .box) ∧ look tm s = some (.ptr id 0) ∧ Q id = some (b, 0) ∧ bs = b :: bs' ∧ f s = .pointer (some ⟨b, 0, none⟩) ∧ w.heap[b]? = some (.cells (List.toArray vs) e fz) ∧ free fz vs.length ∧ LfsR P w Im ls x vs bs'
def PlsR (P : Program) (w : World) (Im : IM) (H : Hp) (Q : QM) (f : Nat → Value) (tm : List (Nat × D)) : (ps : List Pl) → tyL (plShs ps) → List Nat → Prop
  | [], _, bs => bs = []
  | [p], x, bs => PlR P w Im H Q f tm p x bs
  | p :: q :: r, x, bs => ∃ b1 b2, bs = b1 ++ b2 ∧ PlR P w Im H Q f tm p x.1 b1 ∧ PlsR P w Im H Q f tm (q :: r) x.2 b2
theorem PlR_im {Im' : IM} (hm : ∀ b, Im b → Im' b) : ∀ {p : Pl} {x : p.sh.ty} {bs : List Nat}, PlR P w Im H Q f tm p x bs → PlR P w Im' H Q f tm p x bs
  | .t s l, x, bs, h => by simp only [PlR] at h ⊢; exact LfR_im (.inl hm) h
  | .bx s ls, x, bs, h => by
    simp only [PlR] at h ⊢
    obtain ⟨id, b, vs, bs', e, fz, h0, h1, h2, h3, h4, h5, h6, h7⟩ := h
    exact ⟨id, b, vs, bs', e, fz, h0, h1, h2, h3, h4, h5, h6, LfsR_im (.inl hm) h7⟩
theorem PlsR_im {Im' : IM} (hm : ∀ b, Im b → Im' b) : ∀ {ps : List Pl} {x : tyL (plShs ps)} {bs : List Nat}, PlsR P w Im H Q f tm ps x bs → PlsR P w Im' H Q f tm ps x bs
  | [], x, bs, h => h
  | [p], x, bs, h => by simp only [PlsR] at h ⊢; exact PlR_im hm h
  | p :: q :: r, x, bs, h => by
    simp only [PlsR] at h ⊢
    obtain ⟨b1, b2, h1, h2, h3⟩ := h
    exact ⟨b1, b2, h1, PlR_im hm h2, PlsR_im hm h3⟩
theorem plIn_sound (hw : ∀ id h, H id = some h → ObR P w Im H.kd Q id h.ob) (hsub : ∀ id h, hpE.find id = some h → H id = some h) (htm : ∀ s d, look tm s = some d → DR P w Im H.kd Q d (f s)) :
    ∀ {p : Pl} {dl dl' sn : List Nat} {x : p.sh.ty}, plIn p tm hpE dl = some (x, dl', sn) → ∃ bs, PlR P w (ImS Q Im sn) H Q f tm p x bs ∧ Took H Q dl dl' bs
  | .t s l, dl, dl', sn, x, h => by
    simp only [plIn] at h
    split at h
    · rename_i d hl
      obtain ⟨bs, h1, h2⟩ := lfIn_sound hw hsub h (htm s d hl)
      exact ⟨bs, by simp only [PlR]; exact h1, h2⟩
    · cases h
  | .bx s ls, dl, dl', sn, x, h => by
    simp only [plIn] at h
    split at h
    · rename_i d hl
      have hd := htm s d hl
      cases d <;> simp only [parIn] at h <;> first | (cases h; done) | skip
      rename_i id off
      split at h
      · rename_i i cs hf
        split at h
        · rename_i hcond
          simp only [Bool.and_eq_true, beq_iff_eq, Bool.not_eq_true', List.contains_eq_mem, decide_eq_false_iff_not] at hcond
          obtain ⟨rfl, hni⟩ := hcond
          simp only [DR] at hd
          obtain ⟨b, hq, hu⟩ := hd.2 (by rw [find_kd hsub hf]; rfl)
          obtain ⟨b', us, e, fz, hq', hb, hfz, hus⟩ := find_obs hw hsub hf
          rw [hq] at hq'; cases hq'
          obtain ⟨bs, h1, h2⟩ := lfsIn_sound hw hsub h hus
          have h3 : Took H Q dl (id :: dl) (blk Q [id]) := Took.one (hsub _ _ hf) rfl hni
          have hb1 : blk Q [id] = [b] := by simp [blk, hq]
          rw [hb1] at h3
          refine ⟨b :: bs, ?_, h3.trans h2⟩
          simp only [PlR]
          exact ⟨id, b, us, bs, e, fz, ⟨_, hsub _ _ hf, rfl⟩, hl, hq, rfl, hu, hb, hfz, h1⟩
        · cases h
      · cases h
    · cases h
theorem plsIn_sound (hw : ∀ id h, H id = some h → ObR P w Im H.kd Q id h.ob) (hsub : ∀ id h, hpE.find id = some h → H id = some h) (htm : ∀ s d, look tm s = some d → DR P w Im H.kd Q d (f s)) :
    ∀ {ps : List Pl} {dl dl' sn : List Nat} {x : tyL (plShs ps)}, plsIn ps tm hpE dl = some (x, dl', sn) → ∃ bs, PlsR P w (ImS Q Im sn) H Q f tm ps x bs ∧ Took H Q dl dl' bs
  | [], dl, dl', sn, x, h => by
    simp only [plsIn] at h; cases h
    exact ⟨[], by simp only [PlsR], Took.nil⟩
  | [p], dl, dl', sn, x, h => by
    simp only [plsIn] at h
    obtain ⟨bs, h1, h2⟩ := plIn_sound hw hsub htm h
    exact ⟨bs, by simp only [PlsR]; exact h1, h2⟩
  | p :: q :: r, dl, dl', sn, x, h => by
    simp only [plsIn] at h
    split at h
    · rename_i y dl1 i h1
      split at h
      · rename_i z dl2 j h2
        cases h
        obtain ⟨b1, h3, h4⟩ := plIn_sound hw hsub htm h1
        obtain ⟨b2, h5, h6⟩ := plsIn_sound hw hsub htm h2
        refine ⟨b1 ++ b2, ?_, h4.trans h6⟩
        simp only [PlsR]
        exact ⟨b1, b2, rfl, PlR_im (fun b hb => (ImS_sub (by intro k hk; simp [hk]) w b hb).1) h3, PlsR_im (fun b hb => (ImS_sub (by intro k hk; simp [hk]) w b hb).1) h5⟩
      · cases h
    · cases h
end
end Go.Ev
