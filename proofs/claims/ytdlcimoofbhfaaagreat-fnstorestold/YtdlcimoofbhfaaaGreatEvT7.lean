/- A part of the proof. -/
import Derived.Test.YtdlcimoofbhfaaaGreatEvT6
set_option linter.all false
set_option linter.constructorNameAsVariable false
set_option linter.unusedVariables false
set_option linter.unusedSimpArgs false
namespace Go.Ev
section
variable {P : Program} {H : Hp} {Q : QM} {Im : IM} {w : World} {tm0 : List (Nat × D)} {f : Nat → Value}
theorem bxSame_ok : ∀ {ps : List Pl} {tm tm' : List (Nat × D)}, bxSame ps tm tm' = true → ∀ s ls, Pl.bx s ls ∈ ps → ∃ i o o', look tm s = some (.ptr i o) ∧ look tm' s = some (.ptr i o')
  | .t _ _ :: r, tm, tm', h, s, ls, hm => by
    simp only [bxSame] at h
    rcases List.mem_cons.1 hm with hm | hm
    · cases hm
    · exact bxSame_ok h s ls hm
  | .bx s0 l0 :: r, tm, tm', h, s, ls, hm => by
    simp only [bxSame, Bool.and_eq_true] at h
    rcases List.mem_cons.1 hm with hm | hm
    · cases hm
      have h1 := h.1
      split at h1
      · rename_i i o j o' e1 e2
        have : i = j := by simpa using h1
        subst this
        exact ⟨i, o, o', e1, e2⟩
      · cases h1
    · exact bxSame_ok h.2 s ls hm
def TmR (P : Program) (w : World) (Im : IM) (f : Nat → Value) (ps : List Pl) (tm tm' : List (Nat × D)) (K : Nat → Option Kd) (Q : QM) : Prop :=
  ∀ s d, look tm' s = some d → (s ∈ plSlots ps → DR P w Im K Q d (f s)) ∧ (s ∉ plSlots ps → look tm s = some d)
theorem plsOut_sound : ∀ {ps : List Pl} {x : tyL (plShs ps)} {bs : List Nat} {n n' : Nat} {tm tm' : List (Nat × D)} {o : List (Nat × Ob)}, PlsR P w Im H Q f tm0 ps x bs →
    (∀ s ls, Pl.bx s ls ∈ ps → ∃ i o o', look tm0 s = some (.ptr i o) ∧ look tm s = some (.ptr i o')) → (∀ s ls, Pl.bx s ls ∈ ps → s ∉ plSlots ps) → (plSlots ps).Nodup → plsOut ps x n tm = (tm', o, n') →
    ∃ A ids bx, MadeB P w Im o A bs ids bx n n' (TmR P w Im f ps tm tm') ∧ bxOf Q ids bx ∧ bx.Sublist bs ∧ ∀ i ∈ ids, ∃ b h, Q i = some (b, 0) ∧ b ∈ bs ∧ H i = some h ∧ h.ob.kd = .box ∧ ∃ s ls, Pl.bx s ls ∈ ps ∧ look tm0 s = some (.ptr i 0)
  | [], x, bs, n, n', tm, tm', o, h, hb, hsl, hn, ho => by
    simp only [plsOut] at ho; cases ho
    simp only [PlsR] at h; subst h
    exact ⟨[], [], [], Made.toB (Made.zero fun K Q s d hd => ⟨fun hs => by simp [plSlots] at hs, fun _ => hd⟩) [] [], bxOf_nil, by simp, fun i hi => by cases hi⟩
  | [.t s l], x, bs, n, n', tm, tm', o, h, hb, hsl, hn, ho => by
    simp only [plsOut, plOut] at ho
    generalize hd : lfD l x n = q at ho
    obtain ⟨d, o1, n1⟩ := q
    cases ho
    simp only [PlsR, PlR] at h
    obtain ⟨A, hA⟩ := lfD_sound hd h
    refine ⟨A, [], [], (hA.imp fun K Q h1 s' d' hl => ?_).toB [] [], bxOf_nil, by simp, fun i hi => by cases hi⟩
    rw [look_setk] at hl
    by_cases e : s' = s
    · subst e
      rw [if_pos rfl] at hl; cases hl
      exact ⟨fun _ => h1, fun hs => by simp [plSlots] at hs⟩
    · rw [if_neg e] at hl
      exact ⟨fun hs => by simp [plSlots] at hs; exact absurd hs e, fun _ => hl⟩
  | .t s l :: q :: r, x, bs, n, n', tm, tm', o, h, hb, hsl, hn, ho => by
    simp only [plsOut, plOut] at ho
    generalize hd : lfD l x.1 n = q1 at ho
    obtain ⟨d, o1, n1⟩ := q1
    dsimp only at ho
    generalize hd2 : plsOut (q :: r) x.2 n1 (setk tm s d) = q2 at ho
    obtain ⟨tm2, o2, n2⟩ := q2
    cases ho
    simp only [PlsR] at h
    obtain ⟨b1, b2, rfl, h1, h2⟩ := h
    simp only [PlR] at h1
    simp only [plSlots, List.nodup_cons] at hn
    obtain ⟨A, hA⟩ := lfD_sound hd h1
    obtain ⟨B, ids, bx, hB, hbx, hsub, hids⟩ := plsOut_sound h2 (tm := setk tm s d) (fun s' ls hm => by
      obtain ⟨i, o, o', g1, g2⟩ := hb s' ls (List.mem_cons_of_mem _ hm)
      refine ⟨i, o, o', g1, ?_⟩
      rw [look_setk, if_neg]
      · exact g2
      · rintro rfl
        exact hsl _ ls (List.mem_cons_of_mem _ hm) (by simp [plSlots])) (fun s' ls hm hs => hsl s' ls (List.mem_cons_of_mem _ hm) (by simp [plSlots, hs])) hn.2 hd2
    refine ⟨A ++ B, ids, bx, (MadeB.app hA hB).imp ?_, hbx, hsub.trans (List.sublist_append_right _ _), fun i hi => by
      obtain ⟨b, h, k1, k2, k3, k4, s4, l4, m4, m5⟩ := hids i hi
      exact ⟨b, h, k1, by simp [k2], k3, k4, s4, l4, List.mem_cons_of_mem _ m4, m5⟩⟩
    rintro K Q2 ⟨g1, g2⟩ s' d' hl
    obtain ⟨g3, g4⟩ := g2 s' d' hl
    refine ⟨fun hs => ?_, fun hs => ?_⟩
    · simp only [plSlots, List.mem_cons] at hs
      rcases hs with rfl | hs
      · have := g4 hn.1
        rw [look_setk, if_pos rfl] at this
        cases this
        exact g1
      · exact g3 hs
    · simp only [plSlots, List.mem_cons, not_or] at hs
      have := g4 hs.2
      rwa [look_setk, if_neg hs.1] at this
  | [.bx s ls], x, bs, n, n', tm, tm', o, h, hb, hsl, hn, ho => by
    simp only [plsOut, plOut] at ho
    generalize hd : lfsD ls x n = q at ho
    obtain ⟨d, o1, n1⟩ := q
    dsimp only at ho
    obtain ⟨i, oo, oo', g1, g2⟩ := hb s ls (by simp)
    rw [g2] at ho
    cases ho
    simp only [PlsR, PlR] at h
    obtain ⟨id, b, vs, bs', e, fz, ⟨hh, k8, k9⟩, h1, h2, rfl, h4, h5, h6, h7⟩ := h
    rw [g1] at h1; cases h1
    obtain ⟨A, hA⟩ := lfsD_sound hd h7
    have := MadeB.cons (id := i) hA (Made.toB (bs := []) (Made.zero (P := P) (w := w) (Im := Im) (n := n') (Φ := TmR P w Im f [.bx s ls] tm tm) fun K Q s' d' hl => ⟨fun hs => by simp [plSlots] at hs, fun _ => hl⟩) [] []) h5 h6
    simp only [List.append_nil] at this
    exact ⟨_, _, _, this, bxOf_cons h2 bxOf_nil, List.Sublist.cons_cons _ (List.nil_sublist _), fun j hj => by
      simp only [List.mem_singleton] at hj
      subst hj
      exact ⟨b, hh, h2, by simp, k8, k9, s, ls, by simp, g1⟩⟩
  | .bx s ls :: q :: r, x, bs, n, n', tm, tm', o, h, hb, hsl, hn, ho => by
    simp only [plsOut, plOut] at ho
    generalize hd : lfsD ls x.1 n = q1 at ho
    obtain ⟨d, o1, n1⟩ := q1
    dsimp only at ho
    obtain ⟨i, oo, oo', g1, g2⟩ := hb s ls (by simp)
    rw [g2] at ho
    dsimp only at ho
    generalize hd2 : plsOut (q :: r) x.2 n1 tm = q2 at ho
    obtain ⟨tm2, o2, n2⟩ := q2
    cases ho
    simp only [PlsR] at h
    obtain ⟨b1, b2, rfl, h1, h2⟩ := h
    simp only [PlR] at h1
    obtain ⟨id, b, vs, bs', e, fz, ⟨hh, k8, k9⟩, k1, k2, rfl, k4, k5, k6, k7⟩ := h1
    rw [g1] at k1; cases k1
    obtain ⟨A, hA⟩ := lfsD_sound hd k7
    obtain ⟨B, ids, bx, hB, hbx, hsub, hids⟩ := plsOut_sound h2 (tm := tm) (fun s' ls hm => hb s' ls (List.mem_cons_of_mem _ hm)) (fun s' ls' hm hs => hsl s' ls' (List.mem_cons_of_mem _ hm) (by simpa [plSlots] using hs)) (by simpa [plSlots] using hn) hd2
    exact ⟨_, _, _, (MadeB.cons (id := i) hA hB k5 k6).imp (fun K Q2 g s' d' hl => by simpa [TmR, plSlots] using g s' d' hl), bxOf_cons k2 hbx, List.Sublist.cons_cons _ (hsub.trans (List.sublist_append_right _ _)), fun j hj => by
      rcases List.mem_cons.1 hj with rfl | hj
      · exact ⟨b, hh, k2, by simp, k8, k9, s, ls, by simp, g1⟩
      · obtain ⟨b', h, m1, m2, m3, m4, s4, l4, m5, m6⟩ := hids j hj
        exact ⟨b', h, m1, by simp [m2], m3, m4, s4, l4, List.mem_cons_of_mem _ m5, m6⟩⟩
end
end Go.Ev
namespace Go.Ev
theorem bxOf_nodup {Q : QM} : ∀ {ids bx : List Nat}, bxOf Q ids bx → bx.Nodup → ids.Nodup
  | [], bx, h, hn => by simp
  | i :: r, [], h, hn => by have := h.1; simp at this
  | i :: r, b :: bx, h, hn => by
    obtain ⟨h1, h2⟩ := List.nodup_cons.1 hn
    have ht : bxOf Q r bx := ⟨by have := h.1; simpa using this, fun j id b' g1 g2 => h.2 (j + 1) id b' (by simpa using g1) (by simpa using g2)⟩
    refine List.nodup_cons.2 ⟨fun hi => ?_, bxOf_nodup ht h2⟩
    obtain ⟨j, hj, hj'⟩ := List.getElem_of_mem hi
    have hb : j < bx.length := by have := ht.1; omega
    have e1 := h.2 0 i b rfl rfl
    have e2 := ht.2 j i bx[j] (by rw [List.getElem?_eq_getElem hj, hj']) (List.getElem?_eq_getElem hb)
    rw [e1] at e2
    have e3 : b = bx[j] := by injection e2 with e2; injection e2
    exact h1 (by rw [e3]; exact List.getElem_mem hb)
end Go.Ev
