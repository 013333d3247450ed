/- A part of the proof. -/
import Derived.Test.YtdlcimoofbhfaaaGreatEvO3
set_option linter.all false
set_option linter.constructorNameAsVariable false
set_option linter.unusedVariables false
set_option linter.unusedSimpArgs false
namespace Go.Ev
def ImS (Q : QM) (Im : IM) (sn : List Nat) : IM := fun b => Im b ∨ ∃ id ∈ sn, ∃ o, Q id = some (b, o)
theorem ImS_nil {Q : QM} {Im : IM} : ImS Q Im [] = Im := by funext b; simp [ImS]
theorem ImS_sub {Q : QM} {Im : IM} {a b : List Nat} (h : ∀ x ∈ a, x ∈ b) (w : World) : ∀ k, ImS Q Im a k → ImS Q Im b k ∧ w.heap[k]? = w.heap[k]? := by
  intro k hk
  refine ⟨?_, rfl⟩
  rcases hk with hk | ⟨id, h1, h2⟩
  · exact .inl hk
  · exact .inr ⟨id, h _ h1, h2⟩
theorem castR_eq {sh sh' : Sh} {x : sh'.ty} {y : sh.ty} (h : castR sh sh' x = some y) : ∃ e : sh' = sh, y = e ▸ x := by
  unfold castR at h
  split at h
  · rename_i e _; cases h; exact ⟨e, rfl⟩
  · cases h
theorem cellsAt_of {w : World} {b o : Nat} {cs : Array Value} {e : TypeId} {fz : Nat × Nat} {vs : List Value} (hb : w.heap[b]? = some (.cells cs e fz)) (h : ∀ (j : Nat) u, vs[j]? = some u → cs[o + j]? = some u) : cellsAt w b o vs := by
  intro j u hj
  simp only [World.cell?, hb]
  exact h j u hj
section
variable {P : Program} {c : Ctx} {H : Hp} {Q : QM} {Im : IM} {w : World} {val : Operand → D} {ρ : Operand → Value} {hpE : Heap} {nid : Nat} {o : Oper} {x : D × Dl}
theorem find_ob (hw : WR P H Q Im w) (hsub : ∀ id h, hpE.find id = some h → H id = some h) {id i : Nat} {r : Bool} {ob : Ob} (h : hpE.find id = some ⟨i, r, ob⟩) : ObR P w Im H.kd Q id ob :=
  hw.ob id _ (hsub id _ h)
theorem find_obs (hw : ∀ id h, H id = some h → ObR P w Im H.kd Q id h.ob) (hsub : ∀ id h, hpE.find id = some h → H id = some h) {id i : Nat} {r : Bool} {ob : Ob} (h : hpE.find id = some ⟨i, r, ob⟩) : ObR P w Im H.kd Q id ob :=
  hw id _ (hsub id _ h)
theorem bufOf_eq {hp : Heap} {id : Nat} {rs : List Sh} {l : List (tyL rs)} (h : bufOf hp id rs = some l) : ∃ i r, hp.find id = some ⟨i, r, .buf rs l⟩ := by
  unfold bufOf at h
  split at h
  · rename_i i r rs' l' hf
    split at h
    · rename_i e _
      subst e
      cases h
      exact ⟨i, r, hf⟩
    · cases h
  · cases h
theorem sl_own (hw : ∀ id h, H id = some h → ObR P w Im H.kd Q id h.ob) (hsub : ∀ id h, hpE.find id = some h → H id = some h) {id : Nat} {rs : List Sh} {l : List (tyL rs)} (h : bufOf hpE id rs = some l) {u : Value}
    (hu : OwnV w Q id rs.length l.length u) : VR P (.sl rs) l w (ImS Q Im [id]) u := by
  obtain ⟨i, r, hf⟩ := bufOf_eq h
  have hob := find_obs hw hsub hf
  simp only [VR]
  rcases hu with ⟨h0, h1, rfl⟩ | ⟨b, o, cap, hq, rfl, h1, h2⟩
  · refine ⟨none, 0, by rw [h1], by rw [h1]; exact Nat.le_refl _, fun hn => ?_⟩
    exact absurd (List.length_eq_zero_iff.1 h1) hn
  · refine ⟨_, cap, rfl, h1, fun hn => ?_⟩
    rcases hob with ⟨_, h0⟩ | ⟨b', o', cs, e, fz, hq', hb, hfz, hsz, hrow⟩
    · exact absurd h0 hn
    · rw [hq] at hq'; cases hq'
      refine ⟨b, o, rfl, .inr ⟨id, by simp, o, hq⟩, fun i r hr => ?_⟩
      obtain ⟨vs, h3, h4⟩ := hrow i r hr
      exact ⟨vs, CR_mono rs r (fun k hk => ⟨.inl hk, rfl⟩) h3, cellsAt_of hb h4⟩
theorem sl_sub (hw : ∀ id h, H id = some h → ObR P w Im H.kd Q id h.ob) (hsub : ∀ id h, hpE.find id = some h → H id = some h) {id lo hi : Nat} {rs : List Sh} {l : List (tyL rs)} (h : bufOf hpE id rs = some l) {u : Value}
    (hu : SubV w Q id rs.length l.length lo hi u) : VR P (.sl rs) ((l.take hi).drop lo) w (ImS Q Im [id]) u := by
  obtain ⟨i, r, hf⟩ := bufOf_eq h
  have hob := find_obs hw hsub hf
  obtain ⟨h1, h2, hu⟩ := hu
  have hlen : ((l.take hi).drop lo).length = hi - lo := by simp; omega
  simp only [VR]
  rcases hu with ⟨_, h0, rfl⟩ | ⟨b, o, cap, hq, h3, h4, hu⟩
  · refine ⟨none, 0, by rw [hlen, show hi - lo = 0 by omega], by rw [hlen]; omega, fun hn => ?_⟩
    exact absurd (List.length_eq_zero_iff.1 (by rw [hlen]; omega)) hn
  · rcases hu with rfl | ⟨h5, _, rfl⟩
    · refine ⟨_, cap, by rw [hlen], by rw [hlen]; omega, fun hn => ?_⟩
      rcases hob with ⟨_, h0⟩ | ⟨b', o', cs, e, fz, hq', hb, hfz, hsz, hrow⟩
      · subst h0; simp at hn
      · rw [hq] at hq'; cases hq'
        refine ⟨b, o + lo * rs.length, rfl, .inr ⟨id, by simp, o, hq⟩, fun i r hr => ?_⟩
        rw [List.getElem?_drop] at hr
        have hr' : l[lo + i]? = some r := by
          rw [List.getElem?_take] at hr
          split at hr
          · exact hr
          · cases hr
        obtain ⟨vs, h6, h7⟩ := hrow (lo + i) r hr'
        refine ⟨vs, CR_mono rs r (fun k hk => ⟨.inl hk, rfl⟩) h6, ?_⟩
        have : o + lo * rs.length + i * rs.length = o + (lo + i) * rs.length := by rw [Nat.add_mul, Nat.add_assoc]
        rw [this]
        exact cellsAt_of hb h7
    · refine ⟨_, 0, by rw [hlen, show hi - lo = 0 by omega], by rw [hlen]; omega, fun hn => ?_⟩
      exact absurd (List.length_eq_zero_iff.1 (by rw [hlen]; omega)) hn
theorem toR_v {sh sh' : Sh} {y : sh'.ty} {x : sh.ty} {sn : List Nat} {u : Value} {K : Nat → Option Kd} (h : (castR sh sh' y).map (fun z => (z, ([] : List Nat))) = some (x, sn)) (hd : DR P w Im K Q (.v sh' y) u) : VR P sh x w (ImS Q Im sn) u := by
  simp only [Option.map_eq_some_iff, Prod.mk.injEq] at h
  obtain ⟨z, h1, rfl, rfl⟩ := h
  obtain ⟨e, rfl⟩ := castR_eq h1
  subst e
  rw [ImS_nil]
  simpa only [DR] using hd
mutual
theorem toR_sound (hw : ∀ id h, H id = some h → ObR P w Im H.kd Q id h.ob) (hsub : ∀ id h, hpE.find id = some h → H id = some h) : ∀ (sh : Sh) (d : D) (x : sh.ty) (sn : List Nat) (u : Value),
    toR hpE sh d = some (x, sn) → DR P w Im H.kd Q d u → VR P sh x w (ImS Q Im sn) u
  | .b, d, x, sn, u, h, hd => by
    cases d <;> simp only [toR] at h <;> first | (cases h; done) | skip
    · exact toR_v h hd
    · cases h; simp only [DR] at hd; simp only [VR]; exact hd
  | .i k, d, x, sn, u, h, hd => by
    cases d <;> simp only [toR] at h <;> first | (cases h; done) | skip
    exact toR_v h hd
  | .s, d, x, sn, u, h, hd => by
    cases d <;> simp only [toR] at h <;> first | (cases h; done) | skip
    exact toR_v h hd
  | .e, d, x, sn, u, h, hd => by
    cases d <;> simp only [toR] at h <;> first | (cases h; done) | skip
    · exact toR_v h hd
    · cases h; simp only [DR] at hd; simp only [VR]; exact .inl ⟨trivial, hd⟩
  | .fn ag ps, d, x, sn, u, h, hd => by
    cases d <;> simp only [toR] at h <;> first | (cases h; done) | skip
    exact toR_v h hd
  | .fn2 ps, d, x, sn, u, h, hd => by
    cases d <;> simp only [toR] at h <;> first | (cases h; done) | skip
    exact toR_v h hd
  | .sl rs, d, x, sn, u, h, hd => by
    cases d <;> simp only [toR] at h <;> first | (cases h; done) | skip
    · exact toR_v h hd
    · cases h
      simp only [DR] at hd
      simp only [VR]
      exact ⟨none, 0, hd, Nat.le_refl _, fun hn => absurd rfl hn⟩
    · simp only [Option.map_eq_some_iff, Prod.mk.injEq] at h
      obtain ⟨l, h1, rfl, rfl⟩ := h
      simp only [DR] at hd
      obtain ⟨i, r, hf⟩ := bufOf_eq h1
      exact sl_own hw hsub h1 (hd.2 _ _ (by rw [find_kd hsub hf]; rfl))
    · simp only [Option.map_eq_some_iff, Prod.mk.injEq] at h
      obtain ⟨l, h1, rfl, rfl⟩ := h
      simp only [DR] at hd
      obtain ⟨i, r, hf⟩ := bufOf_eq h1
      exact sl_sub hw hsub h1 (hd.2 _ _ (by rw [find_kd hsub hf]; rfl))
  | .rf cs, d, x, sn, u, h, hd => by
    cases d <;> simp only [toR] at h <;> first | (cases h; done) | skip
    · exact toR_v h hd
    · rename_i id off
      split at h
      · rename_i h0
        subst h0
        split at h
        · rename_i i r ds hf
          simp only [Option.map_eq_some_iff, Prod.mk.injEq] at h
          obtain ⟨⟨y, ids⟩, h1, rfl, rfl⟩ := h
          simp only [DR] at hd
          obtain ⟨b, hq, rfl⟩ := hd.2 (by rw [find_kd hsub hf]; rfl)
          obtain ⟨b', us, e, fz, hq', hb, hfz, hus⟩ := find_obs hw hsub hf
          rw [hq] at hq'; cases hq'
          have := toRL_sound hw hsub cs ds y ids us h1 hus
          simp only [VR]
          refine ⟨b, 0, us, rfl, .inr ⟨id, by simp, 0, hq⟩, CR_mono cs y (ImS_sub (by intro z hz; simp [hz]) w) this, cellsAt_of hb (fun j u hj => by simpa using hj)⟩
        · cases h
      · cases h
theorem toRL_sound (hw : ∀ id h, H id = some h → ObR P w Im H.kd Q id h.ob) (hsub : ∀ id h, hpE.find id = some h → H id = some h) : ∀ (rs : List Sh) (ds : List D) (x : tyL rs) (sn : List Nat) (us : List Value),
    toRL hpE rs ds = some (x, sn) → DRL P w Im H.kd Q ds us → CR P rs x w (ImS Q Im sn) us
  | [], [], x, sn, us, h, hd => by
    simp only [toRL] at h; cases h
    simp only [DRL] at hd
    simp only [CR]; exact hd
  | [a], [d], x, sn, us, h, hd => by
    simp only [toRL] at h
    simp only [DRL] at hd
    obtain ⟨u, us', rfl, h1, rfl⟩ := hd
    simp only [CR]
    exact ⟨u, rfl, toR_sound hw hsub a d x sn u h h1⟩
  | a :: c :: r, d :: ds, x, sn, us, h, hd => by
    simp only [toRL] at h
    split at h
    · rename_i y i h1
      split at h
      · rename_i z j h2
        cases h
        rw [DRL] at hd
        obtain ⟨u, us', rfl, h3, h4⟩ := hd
        simp only [CR]
        exact ⟨u, us', rfl, VR_mono a y (ImS_sub (by intro k hk; simp [hk]) w) (toR_sound hw hsub a d y i u h1 h3),
          CR_mono (c :: r) z (ImS_sub (by intro k hk; simp [hk]) w) (toRL_sound hw hsub (c :: r) ds z j us' h2 h4)⟩
      · cases h
    · cases h
  | [], _ :: _, x, sn, us, h, hd => by simp [toRL] at h
  | [a], [], x, sn, us, h, hd => by simp [toRL] at h
  | [a], _ :: _ :: _, x, sn, us, h, hd => by simp [toRL] at h
  | a :: c :: r, [], x, sn, us, h, hd => by simp [toRL] at h
end
end
end Go.Ev
