/- A part of the proof. -/
import Derived.Test.YtdlcimoofbhfaaaGreatEvT9
import Derived.Test.YtdlcimoofbhfaaaGreatEvT4c
set_option linter.all false
set_option linter.constructorNameAsVariable false
set_option linter.unusedVariables false
set_option linter.unusedSimpArgs false
namespace Go.Ev
section
variable {P : Program} {c : Ctx} {R : Type} {Qf : R → Prop}
theorem ev_sound (hc : CtxOk P c) (hm : P.follows .mixedOrders = true) : ∀ code : Code, Sound P c Qf code
  | .skip => sound_skip
  | .region id ops false => sound_region hc
  | .region id ops true => sound_draw hc hm
  | .seq a b => sound_seq (ev_sound hc hm a) (ev_sound hc hm b)
  | .cond t a b => sound_cond (ev_sound hc hm a) (ev_sound hc hm b)
  | .block id b => sound_block (ev_sound hc hm b)
  | .loop b => sound_loop (ev_sound hc hm b)
  | .exit k => sound_exit
  | .ret => sound_ret
  | .rangeFunc .. => by intro n σ Kc As a w Q Im Qp hl hloc hI hd hs hQ; simp [ev, sat] at hs
  | .scope .. => by intro n σ Kc As a w Q Im Qp hl hloc hI hd hs hQ; simp [ev, sat] at hs
  | .label .. => by intro n σ Kc As a w Q Im Qp hl hloc hI hd hs hQ; simp [ev, sat] at hs
  | .refuse .. => by intro n σ Kc As a w Q Im Qp hl hloc hI hd hs hQ; simp [ev, sat] at hs
  | .goto .. => by intro n σ Kc As a w Q Im Qp hl hloc hI hd hs hQ; simp [ev, sat] at hs
end
section
variable {P : Program} {w : World} {Im : IM}
theorem parsD_sound : ∀ {ps : List Par} {x : parTy ps} {n n' : Nat} {ds : List D} {o : List (Nat × Ob)} {us : List Value} {bs bx : List Nat}, parsD ps x n = (ds, o, n') → ParsR P w Im ps x us bs bx →
    ∃ A, Made P w Im o A bs n n' fun K Q => DRL P w Im K Q ds us
  | [], x, n, n', ds, o, us, bs, bx, h, hr => by
    simp only [parsD] at h; cases h
    simp only [ParsR] at hr
    obtain ⟨rfl, rfl, rfl⟩ := hr
    exact ⟨[], Made.zero fun K Q => by simp only [DRL]⟩
  | [p], x, n, n', ds, o, us, bs, bx, h, hr => by
    simp only [parsD] at h
    generalize hd : parD p x n = q at h
    obtain ⟨d1, o1, n1⟩ := q
    cases h
    simp only [ParsR] at hr
    obtain ⟨v, rfl, hr⟩ := hr
    obtain ⟨A, hA⟩ := parD_sound hd hr
    exact ⟨A, hA.imp fun K Q h => by simp only [DRL]; exact ⟨v, [], rfl, h, rfl⟩⟩
  | p :: q :: r, x, n, n', ds, o, us, bs, bx, h, hr => by
    simp only [parsD] at h
    generalize hd : parD p x.1 n = q1 at h
    obtain ⟨d1, o1, n1⟩ := q1
    dsimp only at h
    generalize hd2 : parsD (q :: r) x.2 n1 = q2 at h
    obtain ⟨ds2, o2, n2⟩ := q2
    cases h
    simp only [ParsR] at hr
    obtain ⟨v, vs', b1, b2, x1, x2, rfl, rfl, rfl, h1, h2⟩ := hr
    obtain ⟨A, hA⟩ := parD_sound hd h1
    obtain ⟨B, hB⟩ := parsD_sound hd2 h2
    exact ⟨A ++ B, (Made.app hA hB).imp fun K Q h => by simp only [DRL]; exact ⟨v, vs', rfl, h.1, h.2⟩⟩
theorem parsD_box : ∀ {ps : List Par} {x : parTy ps} {n n' : Nat} {ds : List D} {o : List (Nat × Ob)}, parsD ps x n = (ds, o, n') → ∀ i ∈ boxIds ps ds, ∃ cs, (i, Ob.box cs) ∈ o
  | [], x, n, n', ds, o, h, i, hi => by
    simp only [parsD] at h; cases h
    simp [boxIds] at hi
  | [p], x, n, n', ds, o, h, i, hi => by
    simp only [parsD] at h
    generalize hd : parD p x n = q at h
    obtain ⟨d1, o1, n1⟩ := q
    cases h
    rw [boxIds_cons] at hi
    simp only [boxIds, List.append_nil] at hi
    cases p with
    | one l => simp [bxId] at hi
    | agg l => simp [bxId] at hi
    | box l =>
      simp only [parD] at hd
      cases hd
      simp only [bxId, List.mem_singleton] at hi
      subst hi
      exact ⟨(lfsD l x (i + 1)).1, by simp⟩
  | p :: q :: r, x, n, n', ds, o, h, i, hi => by
    simp only [parsD] at h
    generalize hd : parD p x.1 n = q1 at h
    obtain ⟨d1, o1, n1⟩ := q1
    dsimp only at h
    generalize hd2 : parsD (q :: r) x.2 n1 = q2 at h
    obtain ⟨ds2, o2, n2⟩ := q2
    cases h
    rw [boxIds_cons, List.mem_append] at hi
    rcases hi with hi | hi
    · cases p with
      | one l => simp [bxId] at hi
      | agg l => simp [bxId] at hi
      | box l =>
        simp only [parD] at hd
        cases hd
        simp only [bxId, List.mem_singleton] at hi
        subst hi
        exact ⟨(lfsD l x.1 (i + 1)).1, by simp⟩
    · obtain ⟨cs, h⟩ := parsD_box hd2 i hi
      exact ⟨cs, by simp [h]⟩
theorem box_of {K : Nat → Option Kd} {Q : QM} : ∀ {ps : List Par} {x : parTy ps} {ds : List D} {us : List Value} {bs bx : List Nat}, ParsR P w Im ps x us bs bx → DRL P w Im K Q ds us → (∀ i ∈ boxIds ps ds, K i = some .box) → (boxIds ps ds).length = bx.length → bxOf Q (boxIds ps ds) bx := by
  have one : ∀ {p : Par} {x : p.ty} {d : D} {u : Value} {bs bx : List Nat}, ParR P w Im p x u bs bx → DR P w Im K Q d u → (∀ i ∈ bxId p d, K i = some .box) → bxOf Q (bxId p d) bx ∨ (bxId p d).length < bx.length := by
    intro p x d u bs bx h hd hk
    cases p with
    | one l => simp only [ParR] at h; rw [h.1]; exact .inl bxOf_nil
    | agg l => simp only [ParR] at h; rw [h.1]; exact .inl bxOf_nil
    | box l =>
      simp only [ParR] at h
      obtain ⟨b, vs, bs', e, fz, rfl, rfl, rfl, _⟩ := h
      cases d <;> simp only [bxId] at hk ⊢ <;> first | (right; simp; done) | skip
      rename_i id off
      left
      simp only [DR] at hd
      obtain ⟨b', h1, h2⟩ := hd.2 (hk id (by simp))
      cases h2
      exact bxOf_cons h1 bxOf_nil
  have le : ∀ {p : Par} {x : p.ty} {d : D} {u : Value} {bs bx : List Nat}, ParR P w Im p x u bs bx → (bxId p d).length ≤ bx.length := by
    intro p x d u bs bx h
    cases p with
    | one l => simp [bxId]
    | agg l => simp [bxId]
    | box l =>
      simp only [ParR] at h
      obtain ⟨b, vs, bs', e, fz, rfl, rfl, rfl, _⟩ := h
      cases d <;> simp [bxId]
  have leL : ∀ {ps : List Par} {x : parTy ps} {ds : List D} {us : List Value} {bs bx : List Nat}, ParsR P w Im ps x us bs bx → (boxIds ps ds).length ≤ bx.length := by
    intro ps
    induction ps with
    | nil => intro x ds us bs bx h; simp [boxIds]
    | cons p r ih =>
      intro x ds us bs bx h
      cases ds with
      | nil => cases p <;> simp [boxIds]
      | cons d ds =>
        rw [boxIds_cons, List.length_append]
        cases r with
        | nil =>
          simp only [ParsR] at h
          obtain ⟨v, rfl, h⟩ := h
          have := le (d := d) h
          simp [boxIds]; exact this
        | cons q r =>
          simp only [ParsR] at h
          obtain ⟨v, vs', b1, b2, x1, x2, rfl, rfl, rfl, h1, h2⟩ := h
          have h3 := le (d := d) h1
          have h4 := ih (ds := ds) h2
          simp; omega
  intro ps
  induction ps with
  | nil => intro x ds us bs bx h hd hk hlen; simp only [ParsR] at h; obtain ⟨rfl, rfl, rfl⟩ := h; simp only [boxIds]; exact bxOf_nil
  | cons p r ih =>
    intro x ds us bs bx h hd hk hlen
    cases ds with
    | nil =>
      have : boxIds (p :: r) [] = [] := by cases p <;> rfl
      rw [this] at hlen ⊢
      have : bx = [] := by simpa using hlen.symm
      subst this; exact bxOf_nil
    | cons d ds =>
      rw [boxIds_cons] at hk hlen ⊢
      cases r with
      | nil =>
        simp only [ParsR] at h
        obtain ⟨v, rfl, h⟩ := h
        simp only [DRL] at hd
        obtain ⟨u, us', e, h1, h2⟩ := hd
        cases e
        have hb : boxIds [] ds = [] := by cases ds <;> rfl
        rw [hb, List.append_nil] at hk hlen ⊢
        rcases one h h1 hk with h3 | h3
        · exact h3
        · omega
      | cons q r =>
        simp only [ParsR] at h
        obtain ⟨v, vs', b1, b2, x1, x2, rfl, rfl, rfl, h1, h2⟩ := h
        simp only [DRL] at hd
        obtain ⟨u, us', e, h3, h4⟩ := hd
        cases e
        have l1 := le (d := d) h1
        have l2 := leL (ds := ds) h2
        simp only [List.length_append] at hlen
        refine bxOf_append ?_ (ih h2 h4 (fun i hi => hk i (by simp [hi])) (by omega))
        rcases one h1 h3 (fun i hi => hk i (by simp [hi])) with h5 | h5
        · exact h5
        · omega
theorem parsD_len : ∀ {ps : List Par} {x : parTy ps} {n n' : Nat} {ds : List D} {o : List (Nat × Ob)} {us : List Value} {bs bx : List Nat}, parsD ps x n = (ds, o, n') → ParsR P w Im ps x us bs bx → (boxIds ps ds).length = bx.length
  | [], x, n, n', ds, o, us, bs, bx, h, hr => by
    simp only [parsD] at h; cases h
    simp only [ParsR] at hr; obtain ⟨rfl, rfl, rfl⟩ := hr; rfl
  | [p], x, n, n', ds, o, us, bs, bx, h, hr => by
    simp only [parsD] at h
    generalize hd : parD p x n = q at h
    obtain ⟨d1, o1, n1⟩ := q
    cases h
    simp only [ParsR] at hr
    obtain ⟨v, rfl, hr⟩ := hr
    rw [boxIds_cons]
    cases p with
    | one l => simp only [ParR] at hr; rw [hr.1]; rfl
    | agg l => simp only [ParR] at hr; rw [hr.1]; rfl
    | box l => simp only [ParR] at hr; obtain ⟨b, vs, bs', e, fz, rfl, _⟩ := hr; simp only [parD] at hd; cases hd; rfl
  | p :: q :: r, x, n, n', ds, o, us, bs, bx, h, hr => by
    simp only [parsD] at h
    generalize hd : parD p x.1 n = q1 at h
    obtain ⟨d1, o1, n1⟩ := q1
    dsimp only at h
    generalize hd2 : parsD (q :: r) x.2 n1 = q2 at h
    obtain ⟨ds2, o2, n2⟩ := q2
    cases h
    simp only [ParsR] at hr
    obtain ⟨v, vs', b1, b2, x1, x2, rfl, rfl, rfl, h1, h2⟩ := hr
    rw [boxIds_cons, List.length_append, List.length_append, parsD_len hd2 h2]
    congr 1
    cases p with
    | one l => simp only [ParR] at h1; rw [h1.1]; rfl
    | agg l => simp only [ParR] at h1; rw [h1.1]; rfl
    | box l => simp only [ParR] at h1; obtain ⟨b, vs, bs', e, fz, rfl, _⟩ := h1; simp only [parD] at hd; cases hd; rfl
def BoxV (w : World) : List Nat → List Value → Prop
  | [], us => us = []
  | b :: bx, us => ∃ vs us' e fz, us = .agg (List.toArray vs) :: us' ∧ w.heap[b]? = some (.cells (List.toArray vs) e fz) ∧ free fz vs.length ∧ BoxV w bx us'
theorem BoxV_nil {w : World} {bx : List Nat} (h : BoxV w bx []) : bx = [] := by
  cases bx with
  | nil => rfl
  | cons b r => simp only [BoxV] at h; obtain ⟨vs, us', e, fz, h, _⟩ := h; cases h
theorem agg_one {l : Lf} {x : l.sh.ty} {vs : List Value} {bs bx : List Nat} (h : ParR P w Im (.one l) x (.agg (List.toArray vs)) bs bx) : False := by
  simp only [ParR] at h
  cases l with
  | r sh =>
    simp only [LfR] at h
    have := VR_one sh x h.2.2
    simp [Value.oneCell'] at this
  | o rs =>
    simp only [LfR] at h
    rcases h.2 with ⟨_, h, _⟩ | ⟨b, o, cap, cs, e, fz, _, h, _⟩ <;> cases h
theorem agg_box {ls : List Lf} {x : tyL (lfShs ls)} {vs : List Value} {bs bx : List Nat} (h : ParR P w Im (.box ls) x (.agg (List.toArray vs)) bs bx) : False := by
  simp only [ParR] at h
  obtain ⟨b, vs', bs', e, fz, _, _, h, _⟩ := h
  cases h
theorem agg_of {ls : List Lf} {x : tyL (lfShs ls)} {vs : List Value} {bs bx : List Nat} (h : ParR P w Im (.agg ls) x (.agg (List.toArray vs)) bs bx) : LfsR P w Im ls x vs bs := by
  simp only [ParR] at h
  obtain ⟨h1, vs', h2, h3⟩ := h
  have : vs = vs' := by simpa using h2
  subst this
  exact h3
theorem back_of : ∀ {ps : List Par} {y : parTy ps} {us : List Value} {bs bx0 bx : List Nat}, ParsR P w Im ps y us bs bx0 → BoxV w bx us → ∃ bs', BackR P w Im ps y bx bs' ∧ bs'.Perm (bs ++ bx)
  | [], y, us, bs, bx0, bx, h, hb => by
    simp only [ParsR] at h
    obtain ⟨rfl, rfl, rfl⟩ := h
    have := BoxV_nil hb
    subst this
    exact ⟨[], by simp [BackR], .refl _⟩
  | [p], y, us, bs, bx0, bx, h, hb => by
    simp only [ParsR] at h
    obtain ⟨v, rfl, h⟩ := h
    cases bx with
    | nil => simp only [BoxV] at hb; cases hb
    | cons b r =>
      simp only [BoxV] at hb
      obtain ⟨vs, us', e, fz, h1, h2, h3, h4⟩ := hb
      cases h1
      have := BoxV_nil h4
      subst this
      cases p with
      | one l => exact (agg_one h).elim
      | box l => exact (agg_box h).elim
      | agg ls =>
      have h5 := agg_of h
      refine ⟨b :: bs, ?_, ?_⟩
      · simp only [BackR]; exact ⟨b, vs, bs, e, fz, rfl, rfl, h2, h3, h5⟩
      · exact (List.perm_append_comm (l₁ := [b]) (l₂ := bs))
  | p :: q :: r, y, us, bs, bx0, bx, h, hb => by
    simp only [ParsR] at h
    obtain ⟨v, vs', b1, b2, x1, x2, rfl, rfl, rfl, g1, g2⟩ := h
    cases bx with
    | nil => simp only [BoxV] at hb; cases hb
    | cons b bx =>
      simp only [BoxV] at hb
      obtain ⟨vs, us', e, fz, h1, h2, h3, h4⟩ := hb
      cases h1
      cases p with
      | one l => exact (agg_one g1).elim
      | box l => exact (agg_box g1).elim
      | agg ls =>
      have h5 := agg_of g1
      obtain ⟨bs', k1, k2⟩ := back_of g2 h4
      refine ⟨b :: (b1 ++ bs'), ?_, ?_⟩
      · simp only [BackR]; exact ⟨b, bx, vs, b1, bs', e, fz, rfl, rfl, h2, h3, h5, k1⟩
      · refine (List.Perm.cons b (List.Perm.append_left b1 k2)).trans ?_
        rw [← List.append_assoc]
        exact (List.perm_middle (a := b) (l₁ := b1 ++ b2) (l₂ := bx)).symm
theorem out_of : ∀ {us : List Value} {ps : List Par} {y : parTy ps} {vs : List Value} {bs bx0 bx : List Nat}, ParsR P w Im ps y (us ++ vs) bs bx0 → BoxV w bx vs → ∃ bs', OutR P w Im us.length ps y us bx bs' ∧ bs'.Perm (bs ++ bx)
  | [], ps, y, vs, bs, bx0, bx, h, hb => by
    obtain ⟨bs', h1, h2⟩ := back_of h hb
    exact ⟨bs', by simp only [List.length_nil, OutR]; exact ⟨trivial, h1⟩, h2⟩
  | u :: us, [], y, vs, bs, bx0, bx, h, hb => by simp only [ParsR] at h; cases h.1
  | u :: us, [p], y, vs, bs, bx0, bx, h, hb => by
    simp only [ParsR] at h
    obtain ⟨v, h1, h2⟩ := h
    rw [List.cons_append, List.cons.injEq, List.append_eq_nil_iff] at h1
    obtain ⟨rfl, rfl, rfl⟩ := h1
    have := BoxV_nil hb
    subst this
    exact ⟨bs, by simp only [List.length_singleton, OutR]; exact ⟨trivial, _, _, rfl, h2⟩, by simp⟩
  | u :: us, p :: q :: r, y, vs, bs, bx0, bx, h, hb => by
    simp only [ParsR] at h
    obtain ⟨v, vs', b1, b2, x1, x2, h0, rfl, rfl, g1, g2⟩ := h
    rw [List.cons_append, List.cons.injEq] at h0
    obtain ⟨rfl, rfl⟩ := h0
    obtain ⟨bs', k1, k2⟩ := out_of g2 hb
    exact ⟨b1 ++ bs', by simp only [List.length_cons, OutR]; exact ⟨_, _, b1, bs', x1, rfl, rfl, g1, k1⟩, by rw [List.append_assoc]; exact List.Perm.append_left b1 k2⟩
end
end Go.Ev
