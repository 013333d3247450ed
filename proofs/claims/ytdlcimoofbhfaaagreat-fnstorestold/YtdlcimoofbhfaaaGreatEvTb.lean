/- A part of the proof. -/
import Derived.Test.YtdlcimoofbhfaaaGreatEvTa
set_option linter.all false
set_option linter.constructorNameAsVariable false
set_option linter.unusedVariables false
set_option linter.unusedSimpArgs false
namespace Go.Ev
section
variable {P : Program} {c : Ctx}
theorem look_tms : ∀ (ds : List D) (n s : Nat), look (tmsOf ds n) s = if n ≤ s then ds[s - n]? else none
  | [], n, s => by simp [tmsOf, look]
  | d :: r, n, s => by
    simp only [tmsOf, look]
    rw [look_tms r (n + 1) s]
    by_cases h : n = s
    · subst h; simp
    · rw [if_neg h]
      by_cases h2 : n + 1 ≤ s
      · rw [if_pos h2, if_pos (by omega)]
        have : s - n = (s - (n + 1)) + 1 := by omega
        rw [this]; simp
      · rw [if_neg h2, if_neg (by omega)]
theorem DRL_get {w : World} {Im : IM} {K : Nat → Option Kd} {Q : QM} : ∀ {ds : List D} {us : List Value}, DRL P w Im K Q ds us → ∀ (i : Nat) d, ds[i]? = some d → ∃ u, us[i]? = some u ∧ DR P w Im K Q d u
  | [], us, h, i, d, hi => by simp at hi
  | x :: r, us, h, i, d, hi => by
    simp only [DRL] at h
    obtain ⟨u, us', rfl, h1, h2⟩ := h
    cases i with
    | zero => simp at hi; subst hi; exact ⟨u, rfl, h1⟩
    | succ i => exact DRL_get h2 i d (by simpa using hi)
theorem idsL_mem : ∀ {l : List D} {i : Nat} {d : D}, d ∈ l → i ∈ idsD d → i ∈ idsL l
  | x :: r, i, d, h, hi => by
    simp only [idsL, List.mem_append]
    rcases List.mem_cons.1 h with rfl | h
    · exact .inl hi
    · exact .inr (idsL_mem h hi)
theorem sat_ofO {α X : Type} {o : Option α} {K : α → Tr X} {As : Again} {Qf : X → Prop} (h : sat c.okp (ofO o K) As Qf) : ∃ a, o = some a ∧ sat c.okp (K a) As Qf := by
  cases o with
  | none => simp [ofO, sat] at h
  | some a => exact ⟨a, rfl, h⟩
theorem retD_all {X : Type} {σ : LSt} {K : List D → Tr X} {As : Again} {Qf : X → Prop} (hc : CtxOk P c) {a : Act} {w : World} {Q : QM} {Im : IM} (hw : WR P σ.hp.find Q Im w) (hv : ∀ x, DR P w Im (Hp.kd σ.hp.find) Q (σ.val x) (a.eval x)) :
    ∀ (rs : List ResultVar), sat c.okp (retD c σ K rs) As Qf → ∃ ds us, (∀ g : ResultVar → Sem Value, (∀ t, g (.tmp t) = pure (a.tmps.getD t undef)) → (∀ a' t, g (.cell a' t) = do loadVar t (← asAddr (a.tmps.getD a' undef))) → (rs.mapM g).run P w = .ok us w) ∧ DRL P w Im (Hp.kd σ.hp.find) Q ds us ∧ sat c.okp (K ds) As Qf := by
  intro rs
  induction rs generalizing K with
  | nil => intro h; exact ⟨[], [], fun g _ _ => by simp [List.mapM_nil, Sem.run_pure], by simp only [DRL], h⟩
  | cons r rs ih =>
    cases r with
    | cell a' t =>
      intro h
      simp only [retD] at h
      obtain ⟨x, hr, h⟩ := sat_bind c.okp _ _ h
      obtain ⟨ds, us, h1, h2, h3⟩ := ih h
      have hva := hv (.tmp a')
      simp only [LSt.val, Act.eval] at hva
      obtain ⟨addr, u, g1, g2, g3⟩ := load_run hc hw (fun _ _ h => h) hva hr
      refine ⟨x.1 :: ds, u :: us, ?_, by simp only [DRL]; exact ⟨_, _, rfl, g3, h2⟩, h3⟩
      intro g hg1 hg2
      rw [List.mapM_cons, hg2, Array.getD_eq_getD_getElem?]
      rw [Array.getD_eq_getD_getElem?] at g1
      simp only [Sem.run_bind, g1, asAddr, Sem.run_pure, Result.andThen_ok, g2, h1 g hg1 hg2]
    | tmp t =>
      intro h
      simp only [retD] at h
      obtain ⟨ds, us, h1, h2, h3⟩ := ih h
      refine ⟨σ.get t :: ds, a.tmps.getD t undef :: us, ?_, by simp only [DRL]; exact ⟨_, _, rfl, by have := hv (.tmp t); simpa only [LSt.val, Act.eval] using this, h2⟩, h3⟩
      intro g hg1 hg2
      rw [List.mapM_cons, hg1]
      simp only [Sem.run_bind, Sem.run_pure, Result.andThen_ok, h1 g hg1 hg2]
theorem results_run {fn : Func} {tmps : Array Value} {w : World} {us : List Value} (h : ∀ g : ResultVar → Sem Value, (∀ t, g (.tmp t) = pure (tmps.getD t undef)) → (∀ a' t, g (.cell a' t) = do loadVar t (← asAddr (tmps.getD a' undef))) → (fn.results.toList.mapM g).run P w = .ok us w) : (results fn tmps).run P w = .ok (resV us) w := by
  unfold results
  rw [Array.mapM_eq_mapM_toList]
  simp only [map_eq_pure_bind, Sem.run_bind]
  rw [h _ (fun t => rfl) (fun a' t => rfl)]
  simp only [Result.andThen_ok, Sem.run_pure]
  match us with
  | [] => rfl
  | [u] => rfl
  | u :: u' :: r => rfl
theorem ParsR_sub {w : World} {Im : IM} : ∀ {ps : List Par} {x : parTy ps} {vs : List Value} {bs bx : List Nat}, ParsR P w Im ps x vs bs bx → bx.Sublist bs := by
  have one : ∀ {p : Par} {x : p.ty} {v : Value} {bs bx : List Nat}, ParR P w Im p x v bs bx → bx.Sublist bs := by
    intro p x v bs bx h
    cases p with
    | one l => simp only [ParR] at h; rw [h.1]; exact List.nil_sublist _
    | agg l => simp only [ParR] at h; rw [h.1]; exact List.nil_sublist _
    | box l => simp only [ParR] at h; obtain ⟨b, vs, bs', e, fz, rfl, rfl, _⟩ := h; exact List.Sublist.cons_cons _ (List.nil_sublist _)
  intro ps
  induction ps with
  | nil => intro x vs bs bx h; simp only [ParsR] at h; obtain ⟨rfl, rfl, rfl⟩ := h; exact List.nil_sublist _
  | cons p r ih =>
    intro x vs bs bx h
    cases r with
    | nil => simp only [ParsR] at h; obtain ⟨v, rfl, h⟩ := h; exact one h
    | cons q r =>
      simp only [ParsR] at h
      obtain ⟨v, vs', b1, b2, x1, x2, rfl, rfl, rfl, h1, h2⟩ := h
      exact (one h1).append (ih h2)
theorem ParsR_len {w : World} {Im : IM} : ∀ {ps : List Par} {x : parTy ps} {vs : List Value} {bs bx : List Nat}, ParsR P w Im ps x vs bs bx → vs.length = ps.length
  | [], x, vs, bs, bx, h => by simp only [ParsR] at h; rw [h.1]; rfl
  | [p], x, vs, bs, bx, h => by simp only [ParsR] at h; obtain ⟨v, rfl, _⟩ := h; rfl
  | p :: q :: r, x, vs, bs, bx, h => by
    simp only [ParsR] at h
    obtain ⟨v, vs', b1, b2, x1, x2, rfl, rfl, rfl, h1, h2⟩ := h
    rw [List.length_cons, ParsR_len h2]; rfl
theorem backBoxes_find {hp : Heap} : ∀ {ids : List Nat} {ds : List D}, backBoxes hp ids = some ds → ∀ i ∈ ids, ∃ h cs, hp.find i = some h ∧ h.ob = .box cs
  | [], ds, h, i, hi => by cases hi
  | id :: r, ds, h, i, hi => by
    simp only [backBoxes] at h
    split at h
    · rename_i i' r' cs ds' h1 h2
      rcases List.mem_cons.1 hi with rfl | hi
      · exact ⟨_, cs, h1, rfl⟩
      · exact backBoxes_find h2 i hi
    · cases h
theorem backBoxes_sound {hp : Heap} {w : World} {Im : IM} {Q : QM} (hw : WR P hp.find Q Im w) : ∀ {ids bx : List Nat} {ds : List D}, backBoxes hp ids = some ds → bxOf Q ids bx → ∃ us, DRL P w Im (Hp.kd hp.find) Q ds us ∧ BoxV w bx us ∧ us.length = bx.length
  | [], bx, ds, h, hb => by
    simp only [backBoxes] at h; cases h
    have : bx = [] := by have := hb.1; simpa using this.symm
    subst this
    exact ⟨[], by simp only [DRL], by simp only [BoxV], rfl⟩
  | id :: r, [], ds, h, hb => by have := hb.1; simp at this
  | id :: r, b :: bx, ds, h, hb => by
    simp only [backBoxes] at h
    split at h
    · rename_i i' r' cs ds' h1 h2
      cases h
      obtain ⟨us, g1, g2, g3⟩ := backBoxes_sound hw h2 (bx := bx) ⟨by have := hb.1; simpa using this, fun j id' b' k1 k2 => hb.2 (j + 1) id' b' (by simpa using k1) (by simpa using k2)⟩
      obtain ⟨b', vs, e, fz, k1, k2, k3, k4⟩ := hw.ob id _ h1
      have := hb.2 0 id b rfl rfl
      rw [this] at k1; cases k1
      refine ⟨.agg vs.toArray :: us, ?_, ?_, by simp [g3]⟩
      · simp only [DRL, DR]; exact ⟨_, _, rfl, ⟨vs, rfl, k4⟩, g1⟩
      · simp only [BoxV]; exact ⟨vs, us, e, fz, rfl, k2, k3, g2⟩
    · cases h
theorem blk_bx {Q : QM} : ∀ {ids bx : List Nat}, bxOf Q ids bx → blk Q ids = bx
  | [], bx, h => by have : bx = [] := by have := h.1; simpa using this.symm
                    subst this; rfl
  | id :: r, [], h => by have := h.1; simp at this
  | id :: r, b :: bx, h => by
    have ih := blk_bx (Q := Q) (ids := r) (bx := bx) ⟨by have := h.1; simpa using this, fun j id' b' k1 k2 => h.2 (j + 1) id' b' (by simpa using k1) (by simpa using k2)⟩
    have := h.2 0 id b rfl rfl
    simp only [blk] at ih ⊢
    rw [List.filterMap_cons]
    simp only [this, Option.map_some, ih]
theorem evFun_sound (hc : CtxOk P c) (hm : P.follows .mixedOrders = true) {f : Nat} {fn : Func} (hf : P.funcs[f]? = some fn) {S : Sig} {x : S.In} {y : S.Out} (hs : sat c.okp (evFun c fn S x) [] (fun z => z = y)) : Ok P f S x y := by
  intro w Im vs bs bx hIm hP hnd hbs
  unfold evFun at hs
  generalize hpd : parsD S.ins x 0 = q at hs
  obtain ⟨ds, o, n⟩ := q
  dsimp only at hs
  cases hb : fn.body with
  | none => rw [hb] at hs; simp [sat] at hs
  | some body =>
  rw [hb] at hs
  dsimp only at hs
  split at hs
  case isFalse => simp [sat] at hs
  rename_i hcond
  simp only [Bool.and_eq_true, List.all_eq_true, decide_eq_true_eq] at hcond
  obtain ⟨hdst, hids⟩ := hcond
  simp only [idsOk, Bool.and_eq_true, List.all_eq_true, decide_eq_true_eq] at hids
  obtain ⟨A, hA⟩ := parsD_sound hpd hP
  let Q0 : QM := fun i => match look A i with | some p => p | none => none
  let H0 : Hp := (Heap.puts [] o).find
  have hfind : ∀ i, H0 i = match look o i with | some ob => some ⟨i, false, ob⟩ | none => none := fun i => by
    simp only [H0]
    rw [find_puts o [] i (fun k hk h hf => by simp [Heap.find] at hf)]
    cases look o i <;> rfl
  have hkn := hA.nd
  have hkA : (keys A).Nodup := by rw [hA.ks]; exact hkn
  have hagr : Agr A o (Hp.kd H0) Q0 := by
    constructor
    · intro i p hi; simp only [Q0, look_of_mem hkA hi]
    · intro i b hi; simp [Hp.kd, hfind, look_of_mem hkn hi]
  have hval := hA.val _ _ hagr
  have inA : ∀ {i : Nat} {b oo : Nat}, Q0 i = some (b, oo) → (i, some (b, oo)) ∈ A := by
    intro i b oo h2
    simp only [Q0] at h2
    cases e : look A i with
    | none => rw [e] at h2; cases h2
    | some p => rw [e] at h2; dsimp only at h2; subst h2; exact mem_of_look e
  have own0 : ∀ {i : Nat} {b oo : Nat}, Q0 i = some (b, oo) → b ∈ bs := by
    intro i b oo h
    rw [← hA.bl]
    exact List.mem_filterMap.2 ⟨_, inA h, rfl⟩
  have inO : ∀ {i : Nat} {h : HO}, H0 i = some h → ∃ ob, (i, ob) ∈ o ∧ h = ⟨i, false, ob⟩ := by
    intro i h hf
    rw [hfind] at hf
    cases e : look o i with
    | none => rw [e] at hf; cases hf
    | some ob => rw [e] at hf; cases hf; exact ⟨ob, mem_of_look e, rfl⟩
  let a0 : Act := { tmps := vs.toArray ++ Array.replicate (fn.ntmps - vs.toArray.size) undef, defers := [] }
  have hev : ∀ s u, vs[s]? = some u → a0.tmps.getD s undef = u := by
    intro s u hu
    have hlt : s < vs.length := (List.getElem?_eq_some_iff.1 hu).1
    simp only [a0, Array.getD_eq_getD_getElem?]
    rw [Array.getElem?_append_left (by simpa using hlt)]
    simp [hu]
  have hI : Inv P { loc := [], tm := tmsOf ds 0, hp := Heap.puts [] o, nx := n } n a0 w Q0 Im := by
    refine ⟨⟨hIm, ?_, ?_, ?_⟩, ?_, ?_, ?_⟩
    · intro id h b oo h1 h2; exact hbs b (own0 h2)
    · intro id id' h h' b oo oo' h1 h2 h3 h4
      exact blocks_inj (by rw [hA.bl]; exact hnd) (inA h3) (inA h4)
    · intro id h h1
      obtain ⟨ob, g1, rfl⟩ := inO h1
      exact hval.2 id ob g1
    · intro y
      cases y with
      | tmp s =>
        simp only [LSt.val, LSt.get, look, Act.eval, look_tms]
        simp only [Nat.zero_le, if_true, Nat.sub_zero]
        cases e : ds[s]? with
        | none => simp only [DR]
        | some d =>
          obtain ⟨u, g1, g2⟩ := DRL_get hval.1 s d e
          dsimp only
          have hevs := hev s u g1
          rw [Array.getD_eq_getD_getElem?] at hevs
          first
            | (rw [hevs]; exact g2)
            | (have : a0.tmps.getD s undef = u := hev s u g1; rw [this]; exact g2)
      | const v => simp only [LSt.val, Act.eval]; exact DR_ofVal v
      | func f => simp only [LSt.val, Act.eval, DR]; exact ⟨[], rfl, by simp only [DRL]⟩
      | global g => simp only [LSt.val, DR]
    · intro id h h1
      obtain ⟨ob, g1, rfl⟩ := inO h1
      have := hids.2 (id, ob) g1
      refine ⟨this.1, fun i hi => ?_⟩
      cases ob with
      | box ds =>
        have h2 := this.2
        simp only [List.all_eq_true, decide_eq_true_eq] at h2
        exact h2 i hi
      | buf rs l => cases hi
    · intro y
      cases y with
      | tmp s =>
        simp only [LSt.val, LSt.get, look, look_tms]
        simp only [Nat.zero_le, if_true, Nat.sub_zero]
        cases e : ds[s]? with
        | none => intro i hi; cases hi
        | some d =>
          intro i hi
          refine hids.1 i ?_
          simp only [idsD]
          exact idsL_mem (List.mem_of_getElem? e) hi
      | const v => simp only [LSt.val, idsD_ofVal]; intro i hi; cases hi
      | func f => simp only [LSt.val, idsD, idsL]; intro i hi; cases hi
      | global g => simp only [LSt.val, idsD]; intro i hi; cases hi
  have hboxo := parsD_box hpd
  have hbx0 : bxOf Q0 (boxIds S.ins ds) bx := by
    refine box_of hP hval.1 (fun i hi => ?_) (parsD_len hpd hP)
    obtain ⟨cs, h⟩ := hboxo i hi
    exact hagr.k i _ h
  have hbxn : bx.Nodup := (ParsR_sub hP).nodup hnd
  have hidn : (boxIds S.ins ds).Nodup := bxOf_nodup hbx0 hbxn
  have hlt0 : ∀ i ∈ boxIds S.ins ds, i < n := by
    intro i hi
    obtain ⟨cs, h⟩ := hboxo i hi
    have := hA.rng i (List.mem_map.2 ⟨_, h, rfl⟩)
    omega
  refine calls_of_wp hf hb ?_
  refine (ev_sound hc hm body) 0 _ _ [] a0 w Q0 Im _ rfl rfl hI (fun d hd => ?_) hs ?_
  · have := hdst d hd
    simp only [a0, Array.size_append, Array.size_replicate]
    omega
  intro m e σ' As' a' w' Q' Im' hlen _ hloc hI' hS hT hnx hs'
  have hend : sat c.okp (retD c σ' (fun rs => ofO (backBoxes σ'.hp (boxIds S.ins ds)) fun bx => ofO (parsIn σ'.hp S.outs (rs ++ bx) (boxIds S.ins ds)) fun (y, dl, sn) => if apart dl sn then .ret y else .fail) fn.results.toList) As' (fun z => z = y) →
      a'.defers = [] ∧ ∃ v, (results fn a'.tmps).run P w' = .ok v w' ∧ ∃ v' us bs', Ending.returned v = .returned v' ∧ After P S y w Im bs bx v' w' us bs' := by
    intro hr
    obtain ⟨rds, us, hrun, hus, hr⟩ := retD_all hc hI'.wr hI'.val _ hr
    obtain ⟨bxd, hbxd, hr⟩ := sat_ofO hr
    obtain ⟨⟨y', dl, sn⟩, hin, hr⟩ := sat_ofO hr
    dsimp only at hr
    split at hr
    case isFalse => simp [sat] at hr
    rename_i hap
    simp only [sat] at hr
    subst hr
    have hap' : ∀ i ∈ sn, i ∉ dl := fun i hi => by simpa using List.all_eq_true.1 hap i hi
    have hbx' : bxOf Q' (boxIds S.ins ds) bx := by
      refine ⟨hbx0.1, fun j id b h1 h2 => ?_⟩
      have hm' : id ∈ boxIds S.ins ds := List.mem_of_getElem? h1
      obtain ⟨h, cs, g1, g2⟩ := backBoxes_find hbxd id hm'
      have hk : Hp.kd σ'.hp.find id = some .box := by simp [Hp.kd, g1, g2, Ob.kd]
      rcases (hS.refs id (hlt0 id hm')).same with h3 | ⟨_, h4, _⟩
      · rw [hk] at h3; cases h3
      · rw [h4]; exact hbx0.2 j id b h1 h2
    obtain ⟨bv, hbv1, hbv2, hbv3⟩ := backBoxes_sound hI'.wr hbxd hbx'
    obtain ⟨bs1, bx1, hpr, htook, _⟩ := parsIn_sound hI'.wr.ob (fun _ _ h => h) hin (DRL_append _ _ _ _ hus hbv1)
    obtain ⟨bs', hout, hperm⟩ := out_of hpr hbv2
    obtain ⟨nn, hn1, hn2, hn3⟩ := htook.ex
    have hdl : dl.Nodup := htook.nd hidn
    have hall : ∀ id ∈ dl, ∃ h, σ'.hp.find id = some h := by
      intro id hi
      rw [hn1, List.mem_append] at hi
      rcases hi with hi | hi
      · obtain ⟨h, g, _⟩ := hn3 id hi; exact ⟨h, g⟩
      · obtain ⟨h, _, g, _⟩ := backBoxes_find hbxd id hi; exact ⟨h, g⟩
    have hsum : bs1 ++ bx = blk Q' (nn.reverse ++ boxIds S.ins ds) := by rw [blk_append, hn2, blk_bx hbx']
    have hmem : ∀ b ∈ bs', ∃ id ∈ dl, ∃ h o, σ'.hp.find id = some h ∧ Q' id = some (b, o) := by
      intro b hb
      have hb := hperm.mem_iff.1 hb
      rw [hsum] at hb
      obtain ⟨id, h1, oo, h2⟩ := blk_mem hb
      have hid : id ∈ dl := by rw [hn1]; simpa using h1
      obtain ⟨h, h3⟩ := hall id hid
      exact ⟨id, hid, h, oo, h3, h2⟩
    have hnodup : bs'.Nodup := by
      rw [hperm.nodup_iff, hsum]
      refine blk_nodup hI'.wr (fun id hi => hall id (by rw [hn1]; simpa using hi)) ?_
      rw [hn1] at hdl
      refine (List.Perm.append_right _ (List.reverse_perm nn)).nodup_iff.2 hdl
    have hown : ∀ id h b oo, σ'.hp.find id = some h → Q' id = some (b, oo) → w.heap.size ≤ b ∨ b ∈ bs := by
      intro id h b oo h1 h2
      rcases hS.own id h b oo h1 h2 with h3 | ⟨i, y, o', h3, h4⟩
      · exact .inl h3
      · exact .inr (own0 h4)
    have hI2 : ∀ b, ImS Q' Im' sn b → (Im b ∨ w.heap.size ≤ b ∨ b ∈ bs) ∧ b < w'.heap.size ∧ b ∉ bs' := by
      rintro b (hb | ⟨i, h1, o2, h2⟩)
      · refine ⟨?_, hI'.wr.imlt b hb, fun hb' => ?_⟩
        · rcases hS.im b hb with h | h | ⟨i, y, o', h3, h4⟩
          · exact .inl h
          · exact .inr (.inl h)
          · exact .inr (.inr (own0 h4))
        · obtain ⟨id, _, h, oo, g1, g2⟩ := hmem b hb'
          exact (hI'.wr.own id h b oo g1 g2).2 hb
      · obtain ⟨h, h3⟩ := parsIn_in hin i h1
        refine ⟨.inr (hown i h b o2 h3 h2), (hI'.wr.own i h b o2 h3 h2).1, fun hb' => ?_⟩
        obtain ⟨id, k1, h', oo, g1, g2⟩ := hmem b hb'
        have := hI'.wr.inj i id _ _ _ _ _ h3 g1 h2 g2
        subst this
        exact hap' _ h1 k1
    refine ⟨by rw [hT.def_], resV us, results_run hrun, resV us, us, bs', rfl, rfl, hS.qt, hS.size, ?_, hnodup, ?_, ?_⟩
    · intro b hb hn
      exact hS.kept b hb (fun id h oo _ h2 => hn (own0 h2))
    · intro b hb
      obtain ⟨id, _, h, oo, g1, g2⟩ := hmem b hb
      exact ⟨(hown id h b oo g1 g2).symm, (hI'.wr.own id h b oo g1 g2).1⟩
    · have hl := ParsR_len hpr
      have : S.outs.length - bx.length = us.length := by
        rw [← hl, List.length_append, hbv3]; omega
      rw [this]
      exact OutR_im (.inl hI2) hout
  cases e with
  | normal => exact hend hs'
  | ret => exact hend hs'
  | exit k => simp [sat] at hs'
end
end Go.Ev
