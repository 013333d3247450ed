/- A part of the proof. -/
import Derived.Test.YtdlcimoofbhfaaaGreatEvP6
set_option linter.all false
set_option linter.constructorNameAsVariable false
set_option linter.unusedVariables false
set_option linter.unusedSimpArgs false
namespace Go.Ev
section
variable {P : Program} {c : Ctx} {H : Hp} {Q : QM} {Im Im' : IM} {w w' : World} {val : Operand → D} {ρ : Operand → Value} {hpE : Heap} {nid : Nat} {o : Oper} {x : D × Dl}
theorem rowsAt_mono {rs : List Sh} {l : List (tyL rs)} {b o : Nat} (hm : ∀ b, Im b → Im' b ∧ w'.heap[b]? = w.heap[b]?) (hb : w'.heap[b]? = w.heap[b]?) (h : rowsAt P w Im rs l b o) : rowsAt P w' Im' rs l b o := by
  intro i r hr
  obtain ⟨vs, h1, h2⟩ := h i r hr
  exact ⟨vs, CR_mono rs r hm h1, cellsAt_mono hb h2⟩
theorem LfR_mono (hm : ∀ b, Im b → Im' b ∧ w'.heap[b]? = w.heap[b]?) : ∀ {l : Lf} {x : l.sh.ty} {v : Value} {bs : List Nat}, (∀ b ∈ bs, w'.heap[b]? = w.heap[b]?) → LfR P w Im l x v bs → LfR P w' Im' l x v bs
  | .r sh, x, v, bs, hb, h => by simp only [LfR] at h ⊢; exact ⟨h.1, VR_mono sh x hm h.2⟩
  | .o rs, x, v, bs, hb, h => by
    simp only [LfR] at h ⊢
    rcases h with h | ⟨b, o, cap, cs, e, fz, h1, h2, h3, h4, h5, h6, h7⟩
    · exact .inl h
    · have hk := hb b (by rw [h1]; simp)
      exact .inr ⟨b, o, cap, cs, e, fz, h1, h2, h3, by rw [hk]; exact h4, h5, h6, rowsAt_mono hm hk h7⟩
theorem LfsR_mono (hm : ∀ b, Im b → Im' b ∧ w'.heap[b]? = w.heap[b]?) : ∀ {ls : List Lf} {x : tyL (lfShs ls)} {vs : List Value} {bs : List Nat}, (∀ b ∈ bs, w'.heap[b]? = w.heap[b]?) → LfsR P w Im ls x vs bs → LfsR P w' Im' ls x vs bs
  | [], x, vs, bs, hb, h => by simpa only [LfsR] using h
  | [a], x, vs, bs, hb, h => by
    simp only [LfsR] at h ⊢
    obtain ⟨v, h1, h2⟩ := h
    exact ⟨v, h1, LfR_mono hm hb h2⟩
  | a :: c :: r, x, vs, bs, hb, h => by
    simp only [LfsR] at h ⊢
    obtain ⟨v, vs', b1, b2, h1, h2, h3, h4⟩ := h
    subst h2
    exact ⟨v, vs', b1, b2, h1, rfl, LfR_mono hm (fun b hi => hb b (by simp [hi])) h3, LfsR_mono hm (fun b hi => hb b (by simp [hi])) h4⟩
theorem ParR_mono (hm : ∀ b, Im b → Im' b ∧ w'.heap[b]? = w.heap[b]?) : ∀ {p : Par} {x : p.ty} {v : Value} {bs bx : List Nat}, (∀ b ∈ bs, w'.heap[b]? = w.heap[b]?) → ParR P w Im p x v bs bx → ParR P w' Im' p x v bs bx
  | .one l, x, v, bs, bx, hb, h => by simp only [ParR] at h ⊢; exact ⟨h.1, LfR_mono hm hb h.2⟩
  | .agg ls, x, v, bs, bx, hb, h => by
    simp only [ParR] at h ⊢
    obtain ⟨h1, vs, h2, h3⟩ := h
    exact ⟨h1, vs, h2, LfsR_mono hm hb h3⟩
  | .box ls, x, v, bs, bx, hb, h => by
    simp only [ParR] at h ⊢
    obtain ⟨b, vs, bs', e, fz, h1, h2, h3, h4, h5, h6⟩ := h
    subst h2
    exact ⟨b, vs, bs', e, fz, h1, rfl, h3, by rw [hb b (by simp)]; exact h4, h5, LfsR_mono hm (fun b hi => hb b (by simp [hi])) h6⟩
theorem ParsR_mono (hm : ∀ b, Im b → Im' b ∧ w'.heap[b]? = w.heap[b]?) : ∀ {ps : List Par} {x : parTy ps} {vs : List Value} {bs bx : List Nat}, (∀ b ∈ bs, w'.heap[b]? = w.heap[b]?) → ParsR P w Im ps x vs bs bx → ParsR P w' Im' ps x vs bs bx
  | [], x, vs, bs, bx, hb, h => by simpa only [ParsR] using h
  | [p], x, vs, bs, bx, hb, h => by
    simp only [ParsR] at h ⊢
    obtain ⟨v, h1, h2⟩ := h
    exact ⟨v, h1, ParR_mono hm hb h2⟩
  | p :: q :: r, x, vs, bs, bx, hb, h => by
    simp only [ParsR] at h ⊢
    obtain ⟨v, vs', b1, b2, x1, x2, h1, h2, h3, h4, h5⟩ := h
    subst h2
    exact ⟨v, vs', b1, b2, x1, x2, h1, rfl, h3, ParR_mono hm (fun b hi => hb b (by simp [hi])) h4, ParsR_mono hm (fun b hi => hb b (by simp [hi])) h5⟩
def blk (Q : QM) (ids : List Nat) : List Nat := ids.filterMap fun id => (Q id).map (·.1)
theorem blk_append {Q : QM} {a b : List Nat} : blk Q (a ++ b) = blk Q a ++ blk Q b := by simp [blk]
structure Took (H : Hp) (Q : QM) (dl dl' : List Nat) (bs : List Nat) : Prop where
  ex : ∃ n, dl' = n ++ dl ∧ bs = blk Q n.reverse ∧ ∀ id ∈ n, ∃ h, H id = some h ∧ h.ro = false
  nd : dl.Nodup → dl'.Nodup
theorem Took.nil {dl : List Nat} : Took H Q dl dl [] := ⟨⟨[], by simp, by simp [blk], fun _ h => by cases h⟩, fun h => h⟩
theorem Took.trans {d1 d2 d3 b1 b2 : List Nat} (h : Took H Q d1 d2 b1) (h' : Took H Q d2 d3 b2) : Took H Q d1 d3 (b1 ++ b2) := by
  obtain ⟨n1, e1, f1, g1⟩ := h.ex
  obtain ⟨n2, e2, f2, g2⟩ := h'.ex
  refine ⟨⟨n2 ++ n1, by rw [e2, e1, List.append_assoc], by rw [f1, f2, List.reverse_append, blk_append], ?_⟩, fun hn => h'.nd (h.nd hn)⟩
  intro id hi
  rcases List.mem_append.1 hi with hi | hi
  · exact g2 id hi
  · exact g1 id hi
theorem Took.one {dl : List Nat} {id : Nat} {h : HO} (h1 : H id = some h) (h2 : h.ro = false) (hn : id ∉ dl) : Took H Q dl (id :: dl) (blk Q [id]) where
  ex := ⟨[id], rfl, rfl, fun i hi => by simp only [List.mem_singleton] at hi; subst hi; exact ⟨h, h1, h2⟩⟩
  nd := fun h => List.nodup_cons.2 ⟨hn, h⟩
theorem lfIn_sound (hw : ∀ id h, H id = some h → ObR P w Im H.kd Q id h.ob) (hsub : ∀ id h, hpE.find id = some h → H id = some h) : ∀ {l : Lf} {d : D} {dl dl' sn : List Nat} {x : l.sh.ty} {u : Value},
    lfIn hpE l d dl = some (x, dl', sn) → DR P w Im H.kd Q d u → ∃ bs, LfR P w (ImS Q Im sn) l x u bs ∧ Took H Q dl dl' bs
  | .r sh, d, dl, dl', sn, x, u, h, hd => by
    simp only [lfIn, Option.map_eq_some_iff, Prod.mk.injEq] at h
    obtain ⟨⟨y, i⟩, h1, rfl, rfl, rfl⟩ := h
    exact ⟨[], by simp only [LfR]; exact ⟨trivial, toR_sound hw hsub sh d y i u h1 hd⟩, Took.nil⟩
  | .o rs, d, dl, dl', sn, x, u, h, hd => by
    cases d <;> simp only [lfIn] at h <;> first | (cases h; done) | skip
    · cases h
      simp only [DR] at hd
      exact ⟨[], by simp only [LfR]; exact .inl ⟨trivial, hd, trivial⟩, Took.nil⟩
    · rename_i id
      split at h
      · rename_i hcond
        simp only [Bool.and_eq_true, Bool.not_eq_true', List.contains_eq_mem, decide_eq_false_iff_not] at hcond
        simp only [Option.map_eq_some_iff, Prod.mk.injEq] at h
        obtain ⟨l, h1, rfl, rfl, rfl⟩ := h
        obtain ⟨i, r, hf⟩ := bufOf_eq h1
        obtain ⟨ho, hk, hro⟩ := wr_ok hsub hcond.1 id (by simp)
        simp only [DR] at hd
        have htook : Took H Q dl (id :: dl) (blk Q [id]) := Took.one hk hro hcond.2
        rcases hd.2 _ _ (by rw [find_kd hsub hf]; rfl) with ⟨h0, h2, rfl⟩ | ⟨b, o, cap, hq, rfl, h2, h3⟩
        · refine ⟨[], by simp only [LfR]; exact .inl ⟨List.length_eq_zero_iff.1 h2, by trivial, trivial⟩, ?_⟩
          have : blk Q [id] = [] := by simp [blk, h0]
          rw [this] at htook; exact htook
        · have hb1 : blk Q [id] = [b] := by simp [blk, hq]
          rw [hb1] at htook
          refine ⟨[b], ?_, htook⟩
          rcases find_obs hw hsub hf with ⟨hq', _⟩ | ⟨b', o', cs, e, fz, hq', hb, hfz, hsz, hrow⟩
          · rw [hq] at hq'; cases hq'
          · rw [hq] at hq'; cases hq'
            simp only [LfR]
            refine .inr ⟨b, o, cap, cs, e, fz, by first | rfl | trivial, rfl, h2, hb, hfz, by simpa only [bsize, hb] using h3, fun i r hr => ?_⟩
            obtain ⟨vs, h4, h5⟩ := hrow i r hr
            exact ⟨vs, CR_mono rs r (fun k hk => ⟨.inl hk, rfl⟩) h4, cellsAt_of hb h5⟩
      · cases h
    · rename_i id lo hi
      split at h
      · rename_i hcond
        simp only [Bool.and_eq_true, beq_iff_eq, Bool.not_eq_true', List.contains_eq_mem, decide_eq_false_iff_not] at hcond
        obtain ⟨⟨rfl, hwr⟩, hni⟩ := hcond
        simp only [Option.map_eq_some_iff, Prod.mk.injEq] at h
        obtain ⟨l, h1, rfl, rfl, rfl⟩ := h
        obtain ⟨i, r, hf⟩ := bufOf_eq h1
        obtain ⟨ho, hk, hro⟩ := wr_ok hsub hwr id (by simp)
        simp only [DR] at hd
        have htook : Took H Q dl (id :: dl) (blk Q [id]) := Took.one hk hro hni
        obtain ⟨g1, g2, g3⟩ := hd.2 _ _ (by rw [find_kd hsub hf]; rfl)
        have hlen : (l.take hi).length = hi := by simp; omega
        have gen : ∀ (b o cap : Nat), Q id = some (b, o) → u = .slice (some ⟨b, o, none⟩) hi cap → hi ≤ cap → o + cap * rs.length ≤ bsize w b → ∃ bs, LfR P w (ImS Q Im []) (.o rs) (l.take hi) u bs ∧ Took H Q dl (id :: dl) bs := by
          intro b o cap hq hu h2 h3
          have hb1 : blk Q [id] = [b] := by simp [blk, hq]
          rw [hb1] at htook
          refine ⟨[b], ?_, htook⟩
          rcases find_obs hw hsub hf with ⟨hq', h0⟩ | ⟨b', o', cs, e, fz, hq', hb, hfz, hsz, hrow⟩
          · rw [hq] at hq'; cases hq'
          · rw [hq] at hq'; cases hq'
            simp only [LfR]
            refine .inr ⟨b, o, cap, cs, e, fz, by first | rfl | trivial, by rw [hlen]; exact hu, by rw [hlen]; exact h2, hb, hfz, by simpa only [bsize, hb] using h3, fun i r hr => ?_⟩
            rw [List.getElem?_take] at hr
            split at hr
            · obtain ⟨vs, h4, h5⟩ := hrow i r hr
              exact ⟨vs, CR_mono rs r (fun k hk => ⟨.inl hk, rfl⟩) h4, cellsAt_of hb h5⟩
            · cases hr
        rcases g3 with ⟨h0, h2, rfl⟩ | ⟨b, o, cap, hq, h2, h3, hu | ⟨h5, h6, hu⟩⟩
        · refine ⟨[], by simp only [LfR]; exact .inl ⟨List.length_eq_zero_iff.1 (by omega), by trivial, trivial⟩, ?_⟩
          have : blk Q [id] = [] := by simp [blk, h0]
          rw [this] at htook; exact htook
        · exact gen b o cap hq (by simpa using hu) (by omega) (by simpa using h3)
        · exact gen b o 0 hq (by rw [h5]; exact hu) (by omega) (by
            have : (0 + cap) * rs.length ≥ 0 := Nat.zero_le _
            omega)
      · cases h
theorem lfsIn_sound (hw : ∀ id h, H id = some h → ObR P w Im H.kd Q id h.ob) (hsub : ∀ id h, hpE.find id = some h → H id = some h) : ∀ {ls : List Lf} {ds : List D} {dl dl' sn : List Nat} {x : tyL (lfShs ls)} {us : List Value},
    lfsIn hpE ls ds dl = some (x, dl', sn) → DRL P w Im H.kd Q ds us → ∃ bs, LfsR P w (ImS Q Im sn) ls x us bs ∧ Took H Q dl dl' bs
  | [], [], dl, dl', sn, x, us, h, hd => by
    simp only [lfsIn] at h; cases h
    simp only [DRL] at hd
    exact ⟨[], by simp only [LfsR]; exact ⟨hd, trivial⟩, Took.nil⟩
  | [a], [d], dl, dl', sn, x, us, h, hd => by
    simp only [lfsIn] at h
    simp only [DRL] at hd
    obtain ⟨u, us', rfl, h1, rfl⟩ := hd
    obtain ⟨bs, h2, h3⟩ := lfIn_sound hw hsub h h1
    exact ⟨bs, by simp only [LfsR]; exact ⟨u, rfl, h2⟩, h3⟩
  | a :: c :: r, d :: ds, dl, dl', sn, x, us, h, hd => by
    simp only [lfsIn] at h
    split at h
    · rename_i y dl1 i h1
      split at h
      · rename_i z dl2 j h2
        cases h
        rw [DRL] at hd
        obtain ⟨u, us', rfl, h3, h4⟩ := hd
        obtain ⟨b1, h5, h6⟩ := lfIn_sound hw hsub h1 h3
        obtain ⟨b2, h7, h8⟩ := lfsIn_sound hw hsub h2 h4
        refine ⟨b1 ++ b2, ?_, h6.trans h8⟩
        simp only [LfsR]
        exact ⟨u, us', b1, b2, rfl, rfl, LfR_mono (ImS_sub (by intro k hk; simp [hk]) w) (fun _ _ => rfl) h5, LfsR_mono (ImS_sub (by intro k hk; simp [hk]) w) (fun _ _ => rfl) h7⟩
      · cases h
    · cases h
  | [], _ :: _, dl, dl', sn, x, us, h, hd => by simp [lfsIn] at h
  | [a], [], dl, dl', sn, x, us, h, hd => by simp [lfsIn] at h
  | [a], _ :: _ :: _, dl, dl', sn, x, us, h, hd => by simp [lfsIn] at h
  | a :: c :: r, [], dl, dl', sn, x, us, h, hd => by simp [lfsIn] at h
def bxOf (Q : QM) (ids bx : List Nat) : Prop := ids.length = bx.length ∧ ∀ (j id b : Nat), ids[j]? = some id → bx[j]? = some b → Q id = some (b, 0)
theorem bxOf_nil {Q : QM} : bxOf Q [] [] := ⟨rfl, fun j id b h => by simp at h⟩
theorem bxOf_cons {Q : QM} {id b : Nat} {ids bx : List Nat} (h : Q id = some (b, 0)) (h' : bxOf Q ids bx) : bxOf Q (id :: ids) (b :: bx) := by
  refine ⟨by simp [h'.1], fun j i b' h1 h2 => ?_⟩
  cases j with
  | zero => simp at h1 h2; subst h1; subst h2; exact h
  | succ j => exact h'.2 j i b' (by simpa using h1) (by simpa using h2)
def bxId (p : Par) (d : D) : List Nat := match p, d with | .box _, .ptr id _ => [id] | _, _ => []
theorem boxIds_cons (p : Par) (r : List Par) (d : D) (ds : List D) : boxIds (p :: r) (d :: ds) = bxId p d ++ boxIds r ds := by
  cases p <;> cases d <;> rfl
theorem parIn_sound (hw : ∀ id h, H id = some h → ObR P w Im H.kd Q id h.ob) (hsub : ∀ id h, hpE.find id = some h → H id = some h) : ∀ {p : Par} {d : D} {dl dl' sn : List Nat} {x : p.ty} {u : Value},
    parIn hpE p d dl = some (x, dl', sn) → DR P w Im H.kd Q d u → ∃ bs bx, ParR P w (ImS Q Im sn) p x u bs bx ∧ Took H Q dl dl' bs ∧ bxOf Q (bxId p d) bx ∧ (∀ i ∈ bxId p d, i ∈ dl' ∧ i ∉ dl)
  | .one l, d, dl, dl', sn, x, u, h, hd => by
    simp only [parIn] at h
    obtain ⟨bs, h1, h2⟩ := lfIn_sound hw hsub h hd
    exact ⟨bs, [], by simp only [ParR]; exact ⟨trivial, h1⟩, h2, bxOf_nil, fun i hi => by cases hi⟩
  | .agg ls, d, dl, dl', sn, x, u, h, hd => by
    cases d <;> simp only [parIn] at h <;> first | (cases h; done) | skip
    simp only [DR] at hd
    obtain ⟨us, rfl, hd⟩ := hd
    obtain ⟨bs, h1, h2⟩ := lfsIn_sound hw hsub h hd
    exact ⟨bs, [], by simp only [ParR]; exact ⟨trivial, us, rfl, h1⟩, h2, bxOf_nil, fun i hi => by cases hi⟩
  | .box ls, d, dl, dl', sn, x, u, h, hd => by
    cases d <;> simp only [parIn] at h <;> first | (cases h; done) | skip
    rename_i id off
    split at h
    · rename_i i cs hf
      split at h
      · rename_i hcond
        simp only [Bool.and_eq_true, beq_iff_eq, Bool.not_eq_true', List.contains_eq_mem, decide_eq_false_iff_not] at hcond
        obtain ⟨rfl, hni⟩ := hcond
        simp only [DR] at hd
        obtain ⟨b, hq, hu⟩ := hd.2 (by rw [find_kd hsub hf]; rfl)
        obtain ⟨b', us, e, fz, hq', hb, hfz, hus⟩ := find_obs hw hsub hf
        rw [hq] at hq'; cases hq'
        obtain ⟨bs, h1, h2⟩ := lfsIn_sound hw hsub h hus
        have h3 : Took H Q dl (id :: dl) (blk Q [id]) := Took.one (hsub _ _ hf) rfl hni
        have hb1 : blk Q [id] = [b] := by simp [blk, hq]
        rw [hb1] at h3
        refine ⟨b :: bs, [b], ?_, h3.trans h2, bxOf_cons hq bxOf_nil, fun i hi => ?_⟩
        · simp only [ParR]
          exact ⟨b, us, bs, e, fz, rfl, rfl, hu, hb, hfz, h1⟩
        · simp only [bxId, List.mem_singleton] at hi
          subst hi
          obtain ⟨n, hn, _⟩ := h2.ex
          exact ⟨by rw [hn]; simp, hni⟩
      · cases h
    · cases h
theorem bxOf_append {a b x y : List Nat} (h : bxOf Q a x) (h' : bxOf Q b y) : bxOf Q (a ++ b) (x ++ y) := by
  refine ⟨by simp [h.1, h'.1], fun j i k h1 h2 => ?_⟩
  by_cases hj : j < a.length
  · rw [List.getElem?_append_left hj] at h1
    rw [List.getElem?_append_left (by rw [← h.1]; exact hj)] at h2
    exact h.2 j i k h1 h2
  · rw [List.getElem?_append_right (by omega)] at h1
    rw [List.getElem?_append_right (by rw [← h.1]; omega), ← h.1] at h2
    exact h'.2 _ i k h1 h2
theorem parsIn_sound (hw : ∀ id h, H id = some h → ObR P w Im H.kd Q id h.ob) (hsub : ∀ id h, hpE.find id = some h → H id = some h) : ∀ {ps : List Par} {ds : List D} {dl dl' sn : List Nat} {x : parTy ps} {us : List Value},
    parsIn hpE ps ds dl = some (x, dl', sn) → DRL P w Im H.kd Q ds us → ∃ bs bx, ParsR P w (ImS Q Im sn) ps x us bs bx ∧ Took H Q dl dl' bs ∧ bxOf Q (boxIds ps ds) bx ∧ (∀ i ∈ boxIds ps ds, i ∈ dl' ∧ i ∉ dl) ∧ (boxIds ps ds).Nodup
  | [], [], dl, dl', sn, x, us, h, hd => by
    simp only [parsIn] at h; cases h
    simp only [DRL] at hd
    exact ⟨[], [], by simp only [ParsR]; exact ⟨hd, trivial, trivial⟩, Took.nil, bxOf_nil, fun i hi => by simp [boxIds] at hi, by simp [boxIds]⟩
  | [p], [d], dl, dl', sn, x, us, h, hd => by
    simp only [parsIn] at h
    simp only [DRL] at hd
    obtain ⟨u, us', rfl, h1, rfl⟩ := hd
    obtain ⟨bs, bx, h2, h3, h4, h5⟩ := parIn_sound hw hsub h h1
    have e : boxIds [p] [d] = bxId p d := by rw [boxIds_cons]; simp [boxIds]
    exact ⟨bs, bx, by simp only [ParsR]; exact ⟨u, rfl, h2⟩, h3, by rw [e]; exact h4, by rw [e]; exact h5, by rw [e]; cases p <;> cases d <;> simp [bxId]⟩
  | p :: q :: r, d :: ds, dl, dl', sn, x, us, h, hd => by
    simp only [parsIn] at h
    split at h
    · rename_i y dl1 i h1
      split at h
      · rename_i z dl2 j h2
        cases h
        rw [DRL] at hd
        obtain ⟨u, us', rfl, h3, h4⟩ := hd
        obtain ⟨b1, x1, h5, h6, g1, g2⟩ := parIn_sound hw hsub h1 h3
        obtain ⟨b2, x2, h7, h8, g3, g4, g5⟩ := parsIn_sound hw hsub h2 h4
        refine ⟨b1 ++ b2, x1 ++ x2, ?_, h6.trans h8, by rw [boxIds_cons]; exact bxOf_append g1 g3, ?_, ?_⟩
        · simp only [ParsR]
          exact ⟨u, us', b1, b2, x1, x2, rfl, rfl, rfl, ParR_mono (ImS_sub (by intro k hk; simp [hk]) w) (fun _ _ => rfl) h5, ParsR_mono (ImS_sub (by intro k hk; simp [hk]) w) (fun _ _ => rfl) h7⟩
        · rw [boxIds_cons]
          intro k hk
          obtain ⟨n1, e1, _⟩ := h6.ex
          obtain ⟨n2, e2, _⟩ := h8.ex
          rcases List.mem_append.1 hk with hk | hk
          · exact ⟨by rw [e2]; simp [(g2 k hk).1], (g2 k hk).2⟩
          · exact ⟨(g4 k hk).1, fun hn => (g4 k hk).2 (by rw [e1]; simp [hn])⟩
        · rw [boxIds_cons]
          refine List.nodup_append.2 ⟨by cases p <;> cases d <;> simp [bxId], g5, fun a ha b hb hab => ?_⟩
          subst hab
          exact (g4 a hb).2 (g2 a ha).1
      · cases h
    · cases h
  | [], _ :: _, dl, dl', sn, x, us, h, hd => by simp [parsIn] at h
  | [p], [], dl, dl', sn, x, us, h, hd => by simp [parsIn] at h
  | [p], _ :: _ :: _, dl, dl', sn, x, us, h, hd => by simp [parsIn] at h
  | p :: q :: r, [], dl, dl', sn, x, us, h, hd => by simp [parsIn] at h
end
end Go.Ev
