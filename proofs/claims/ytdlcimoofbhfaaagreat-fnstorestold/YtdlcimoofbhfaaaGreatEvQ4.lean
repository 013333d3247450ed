/- A part of the proof. -/
import Derived.Test.YtdlcimoofbhfaaaGreatEvQ3
set_option linter.all false
set_option linter.constructorNameAsVariable false
set_option linter.unusedVariables false
set_option linter.unusedSimpArgs false
namespace Go.Ev
section
variable {P : Program} {w : World} {Im Im' : IM}
theorem VR_im : ∀ (sh : Sh) (x : sh.ty) {v : Value}, (∀ b, Im b → Im' b) ∨ sh.mem = false → VR P sh x w Im v → VR P sh x w Im' v := by
  intro sh x v h hv
  rcases h with h | h
  · exact VR_mono sh x (fun b hb => ⟨h b hb, rfl⟩) hv
  · cases sh <;> simp [Sh.mem] at h <;> simpa only [VR] using hv
theorem CR_im : ∀ (rs : List Sh) (x : tyL rs) {vs : List Value}, (∀ b, Im b → Im' b) ∨ rs.any Sh.mem = false → CR P rs x w Im vs → CR P rs x w Im' vs
  | [], x, vs, h, hv => by simpa only [CR] using hv
  | [a], x, vs, h, hv => by
    simp only [CR] at hv ⊢
    obtain ⟨v, h1, h2⟩ := hv
    exact ⟨v, h1, VR_im a x (h.imp id (by simp)) h2⟩
  | a :: c :: r, x, vs, h, hv => by
    simp only [CR] at hv ⊢
    obtain ⟨v, vs', h1, h2, h3⟩ := hv
    refine ⟨v, vs', h1, VR_im a x.1 (h.imp id (by simp only [List.any_cons, Bool.or_eq_false_iff]; exact fun h => h.1)) h2, CR_im (c :: r) x.2 (h.imp id (by rw [List.any_cons, Bool.or_eq_false_iff]; exact fun h => h.2)) h3⟩
theorem LfR_im : ∀ {l : Lf} {x : l.sh.ty} {v : Value} {bs : List Nat}, (∀ b, Im b → Im' b) ∨ l.mem = false → LfR P w Im l x v bs → LfR P w Im' l x v bs
  | .r sh, x, v, bs, h, hr => by simp only [LfR] at hr ⊢; exact ⟨hr.1, VR_im sh x h hr.2⟩
  | .o rs, x, v, bs, h, hr => by
    simp only [LfR] at hr ⊢
    rcases hr with hr | ⟨b, o, cap, cs, e, fz, h1, h2, h3, h4, h5, h6, h7⟩
    · exact .inl hr
    · refine .inr ⟨b, o, cap, cs, e, fz, h1, h2, h3, h4, h5, h6, fun i r hi => ?_⟩
      obtain ⟨vs, h8, h9⟩ := h7 i r hi
      exact ⟨vs, CR_im rs r h h8, h9⟩
theorem LfsR_im : ∀ {ls : List Lf} {x : tyL (lfShs ls)} {vs : List Value} {bs : List Nat}, (∀ b, Im b → Im' b) ∨ ls.any Lf.mem = false → LfsR P w Im ls x vs bs → LfsR P w Im' ls x vs bs
  | [], x, vs, bs, h, hr => by simpa only [LfsR] using hr
  | [a], x, vs, bs, h, hr => by
    simp only [LfsR] at hr ⊢
    obtain ⟨v, h1, h2⟩ := hr
    exact ⟨v, h1, LfR_im (h.imp id (by simp)) h2⟩
  | a :: c :: r, x, vs, bs, h, hr => by
    simp only [LfsR] at hr ⊢
    obtain ⟨v, vs', b1, b2, h1, h2, h3, h4⟩ := hr
    refine ⟨v, vs', b1, b2, h1, h2, LfR_im (h.imp id (by simp only [List.any_cons, Bool.or_eq_false_iff]; exact fun h => h.1)) h3, LfsR_im (h.imp id (by rw [List.any_cons, Bool.or_eq_false_iff]; exact fun h => h.2)) h4⟩
theorem ParR_im : ∀ {p : Par} {x : p.ty} {v : Value} {bs bx : List Nat}, (∀ b, Im b → Im' b) ∨ p.mem = false → ParR P w Im p x v bs bx → ParR P w Im' p x v bs bx
  | .one l, x, v, bs, bx, h, hr => by simp only [ParR] at hr ⊢; exact ⟨hr.1, LfR_im h hr.2⟩
  | .agg ls, x, v, bs, bx, h, hr => by
    simp only [ParR] at hr ⊢
    obtain ⟨h1, vs, h2, h3⟩ := hr
    exact ⟨h1, vs, h2, LfsR_im h h3⟩
  | .box ls, x, v, bs, bx, h, hr => by
    simp only [ParR] at hr ⊢
    obtain ⟨b, vs, bs', e, fz, h1, h2, h3, h4, h5, h6⟩ := hr
    exact ⟨b, vs, bs', e, fz, h1, h2, h3, h4, h5, LfsR_im h h6⟩
theorem BackR_im : ∀ {ps : List Par} {x : parTy ps} {bx bs : List Nat}, (∀ b, Im b → Im' b) ∨ ps.any Par.mem = false → BackR P w Im ps x bx bs → BackR P w Im' ps x bx bs
  | [], x, bx, bs, h, hr => by simpa only [BackR] using hr
  | [.agg ls], x, bx, bs, h, hr => by
    simp only [BackR] at hr ⊢
    obtain ⟨b, vs, bs', e, fz, h1, h2, h3, h4, h5⟩ := hr
    exact ⟨b, vs, bs', e, fz, h1, h2, h3, h4, LfsR_im (h.imp id (by simp [Par.mem])) h5⟩
  | .agg ls :: q :: r, x, bx, bs, h, hr => by
    simp only [BackR] at hr ⊢
    obtain ⟨b, bx', vs, bs', bs2, e, fz, h1, h2, h3, h4, h5, h6⟩ := hr
    exact ⟨b, bx', vs, bs', bs2, e, fz, h1, h2, h3, h4, LfsR_im (h.imp id (by simp only [List.any_cons, Bool.or_eq_false_iff, Par.mem]; exact fun h => h.1)) h5, BackR_im (h.imp id (by rw [List.any_cons, Bool.or_eq_false_iff]; exact fun h => h.2)) h6⟩
  | .one _ :: r, x, bx, bs, h, hr => by cases r <;> simp [BackR] at hr
  | .box _ :: r, x, bx, bs, h, hr => by cases r <;> simp [BackR] at hr
theorem OutR_im : ∀ {nr : Nat} {ps : List Par} {x : parTy ps} {us : List Value} {bx bs : List Nat}, (∀ b, Im b → Im' b) ∨ ps.any Par.mem = false → OutR P w Im nr ps x us bx bs → OutR P w Im' nr ps x us bx bs
  | 0, ps, x, us, bx, bs, h, hr => by
    simp only [OutR] at hr ⊢
    exact ⟨hr.1, BackR_im h hr.2⟩
  | 1, [p], x, us, bx, bs, h, hr => by
    simp only [OutR] at hr ⊢
    obtain ⟨h1, u, bx', h2, h3⟩ := hr
    exact ⟨h1, u, bx', h2, ParR_im (h.imp id (by simp)) h3⟩
  | nr + 1, p :: q :: r, x, us, bx, bs, h, hr => by
    simp only [OutR] at hr ⊢
    obtain ⟨u, us', b1, b2, bx', h1, h2, h3, h4⟩ := hr
    exact ⟨u, us', b1, b2, bx', h1, h2, ParR_im (h.imp id (by simp only [List.any_cons, Bool.or_eq_false_iff]; exact fun h => h.1)) h3, OutR_im (h.imp id (by rw [List.any_cons, Bool.or_eq_false_iff]; exact fun h => h.2)) h4⟩
  | nr + 1, [], x, us, bx, bs, h, hr => by cases nr <;> simp [OutR] at hr
  | nr + 2, [p], x, us, bx, bs, h, hr => by simp [OutR] at hr
theorem tup_R {K : Nat → Option Kd} {Q : QM} {ds : List D} {us : List Value} (h : DRL P w Im K Q ds us) : DR P w Im K Q (tupD ds) (resV us) := by
  match ds, us, h with
  | [], us, h => simp only [DRL] at h; subst h; simp only [tupD, resV, DR]; exact ⟨[], rfl, by simp only [DRL]⟩
  | [d], us, h => simp only [DRL] at h; obtain ⟨u, us', rfl, h1, rfl⟩ := h; simp only [tupD, resV]; exact h1
  | d :: e :: r, us, h =>
    have h0 := h
    simp only [DRL] at h
    obtain ⟨u, us', rfl, h1, u2, us2, rfl, h2, h3⟩ := h
    simp only [tupD, resV, DR]
    exact ⟨_, rfl, h0⟩
theorem blk_mem {Q : QM} {ids : List Nat} {b : Nat} (h : b ∈ blk Q ids) : ∃ id ∈ ids, ∃ o, Q id = some (b, o) := by
  simp only [blk, List.mem_filterMap, Option.map_eq_some_iff] at h
  obtain ⟨id, h1, ⟨b', o⟩, h2, rfl⟩ := h
  exact ⟨id, h1, o, h2⟩
theorem blk_nodup {H : Hp} {Q : QM} (hw : WR P H Q Im w) : ∀ {ids : List Nat}, (∀ id ∈ ids, ∃ h, H id = some h) → ids.Nodup → (blk Q ids).Nodup
  | [], _, _ => by simp [blk]
  | id :: r, h, hn => by
    obtain ⟨h1, h2⟩ := List.nodup_cons.1 hn
    have ih := blk_nodup hw (fun i hi => h i (by simp [hi])) h2
    cases hq : Q id with
    | none => simpa [blk, hq] using ih
    | some p =>
      obtain ⟨b, o⟩ := p
      have e : blk Q (id :: r) = b :: blk Q r := by simp [blk, hq]
      rw [e]
      refine List.nodup_cons.2 ⟨fun hb => ?_, ih⟩
      obtain ⟨i, hi, o', hq'⟩ := blk_mem hb
      obtain ⟨x, hx⟩ := h id (by simp)
      obtain ⟨y, hy⟩ := h i (by simp [hi])
      have := hw.inj id i _ _ _ _ _ hx hy hq hq'
      subst this
      exact h1 hi
theorem look_of_mem {α : Type} : ∀ {l : List (Nat × α)} {i : Nat} {x : α}, (keys l).Nodup → (i, x) ∈ l → look l i = some x
  | (k, y) :: r, i, x, hn, h => by
    obtain ⟨h1, h2⟩ := List.nodup_cons.1 hn
    rcases List.mem_cons.1 h with h | h
    · cases h; simp [look]
    · have : k ≠ i := by rintro rfl; exact h1 (List.mem_map.2 ⟨_, h, rfl⟩)
      simp only [look]
      rw [if_neg this]
      exact look_of_mem h2 h
theorem mem_of_look {α : Type} : ∀ {l : List (Nat × α)} {i : Nat} {x : α}, look l i = some x → (i, x) ∈ l
  | (k, y) :: r, i, x, h => by
    simp only [look] at h
    split at h
    · rename_i e; subst e; cases h; simp
    · exact List.mem_cons_of_mem _ (mem_of_look h)
theorem blocks_inj : ∀ {A : AL} {i j b o o' : Nat}, A.blocks.Nodup → (i, some (b, o)) ∈ A → (j, some (b, o')) ∈ A → i = j
  | p :: A, i, j, b, o, o', hn, h1, h2 => by
    have mem : ∀ {k b o : Nat}, (k, some (b, o)) ∈ A → b ∈ AL.blocks A := fun hk => List.mem_filterMap.2 ⟨_, hk, rfl⟩
    obtain ⟨k, q⟩ := p
    cases q with
    | none =>
      have e : AL.blocks ((k, none) :: A) = AL.blocks A := by simp [AL.blocks]
      rw [e] at hn
      rcases List.mem_cons.1 h1 with h1 | h1
      · cases h1
      · rcases List.mem_cons.1 h2 with h2 | h2
        · cases h2
        · exact blocks_inj hn h1 h2
    | some q =>
      obtain ⟨b2, o2⟩ := q
      have e : AL.blocks ((k, some (b2, o2)) :: A) = b2 :: AL.blocks A := by simp [AL.blocks]
      rw [e] at hn
      obtain ⟨h3, h4⟩ := List.nodup_cons.1 hn
      rcases List.mem_cons.1 h1 with g1 | g1 <;> rcases List.mem_cons.1 h2 with g2 | g2
      · cases g1; cases g2; rfl
      · cases g1; exact absurd (mem g2) h3
      · cases g2; exact absurd (mem g1) h3
      · exact blocks_inj h4 g1 g2
end
section
variable {P : Program} {c : Ctx} {H : Hp} {Q : QM} {Im Im' : IM} {w w' : World} {val : Operand → D} {ρ : Operand → Value} {hpE : Heap} {nid : Nat} {o : Oper} {x : D × Dl}
theorem boxIds_clo : ∀ (ps : List Par) (ds : List D), boxIds ps (cloDs c hpE ps ds) = boxIds ps ds
  | [], ds => by cases ds <;> rfl
  | p :: r, [] => by simp [cloDs]
  | p :: r, d :: ds => by
    simp only [cloDs]
    rw [boxIds_cons, boxIds_cons, boxIds_clo r ds]
    congr 1
    cases p <;> cases d <;> first | rfl | skip
theorem boxIds_box : ∀ {ps : List Par} {ds : List D} {dl dl' sn : List Nat} {x : parTy ps}, parsIn hpE ps ds dl = some (x, dl', sn) → ∀ i ∈ boxIds ps ds, ∃ i' cs, hpE.find i = some ⟨i', false, .box cs⟩
  | [], ds, dl, dl', sn, x, h, i, hi => by cases ds <;> simp [boxIds] at hi
  | p :: r, [], dl, dl', sn, x, h, i, hi => by simp [boxIds] at hi
  | [p], [d], dl, dl', sn, x, h, i, hi => by
    rw [boxIds_cons] at hi
    simp only [parsIn] at h
    have hi : i ∈ bxId p d := by simpa [boxIds] using hi
    cases p <;> cases d <;> simp only [bxId, List.not_mem_nil, List.mem_singleton] at hi
    subst hi
    simp only [parIn] at h
    split at h
    · rename_i hf; exact ⟨_, _, hf⟩
    · cases h
  | [p], d :: e :: ds, dl, dl', sn, x, h, i, hi => by simp [parsIn] at h
  | p :: q :: r, d :: ds, dl, dl', sn, x, h, i, hi => by
    rw [boxIds_cons] at hi
    simp only [parsIn] at h
    split at h
    · rename_i y dl1 j h1
      split at h
      · rename_i z dl2 k h2
        rcases List.mem_append.1 hi with hi | hi
        · cases p <;> cases d <;> simp only [bxId, List.not_mem_nil, List.mem_singleton] at hi
          subst hi
          simp only [parIn] at h1
          split at h1
          · rename_i hf; exact ⟨_, _, hf⟩
          · cases h1
        · exact boxIds_box h2 i hi
      · cases h
    · cases h
theorem call_post (hw : WR P H Q Im w) (hf : Fr H val nid) {S : Sig} {y : S.Out} {dl sn fz ids bx bs bs' : List Nat} {v : Value} {us : List Value} {rs : List D} {ob : List (Nat × Ob)} {n' : Nat}
    (hdl : ∀ id ∈ dl, ∃ h, H id = some h ∧ h.ro = false) (hnd : dl.Nodup) (hbs : bs = blk Q dl.reverse) (hfz : fz = if S.outs.any Par.mem then sn else []) (hfzo : WrOk H fz) (hap : ∀ i ∈ sn, i ∉ dl)
    (hids : ∀ i ∈ ids, i ∈ dl ∧ ∃ h, H i = some h ∧ h.ob.kd = .box) (hidn : ids.Nodup) (hbx : bxOf Q ids bx)
    (ha : After P S y w (ImS Q Im sn) bs bx v w' us bs') (ho : outsD (S.outs.length - ids.length) S.outs y ids nid = some (rs, ob, n')) (hn : n' ≤ nid + 8) :
    Post P H Q Im w nid (tupD rs, { del := dl ++ fz, put := ob }) v w' := by
  have hout := ha.out
  rw [show bx.length = ids.length from hbx.1.symm] at hout
  have hbsown : ∀ b ∈ bs, ∃ id ∈ dl, ∃ h o, H id = some h ∧ Q id = some (b, o) := by
    intro b hb
    rw [hbs] at hb
    obtain ⟨id, h1, o, h2⟩ := blk_mem hb
    have h1 : id ∈ dl := by simpa using h1
    obtain ⟨h, h3, _⟩ := hdl id h1
    exact ⟨id, h1, h, o, h3, h2⟩
  have hfzsn : ∀ i ∈ fz, i ∈ sn := by
    intro i hi
    rw [hfz] at hi
    split at hi
    · exact hi
    · cases hi
  let N : IM := fun b => (w.heap.size ≤ b ∨ b ∈ bs) ∧ b < w'.heap.size ∧ b ∉ bs'
  have hout' : OutR P w' (fun b => ImS Q Im fz b ∨ N b) (S.outs.length - ids.length) S.outs y us bx bs' := by
    refine OutR_im ?_ hout
    by_cases hm : S.outs.any Par.mem = true
    · left
      rintro b ⟨h1, h2, h3⟩
      rw [hfz, if_pos hm]
      rcases h1 with h1 | h1
      · exact .inl h1
      · exact .inr ⟨h1, h2, h3⟩
    · right; simpa using hm
  obtain ⟨A, hA⟩ := outsD_sound ho hout'
  have nfresh : ∀ i h, H i = some h → ¬ (nid ≤ i ∧ i < nid + 8) := by
    rintro i h h1 ⟨h2, h3⟩
    rw [hf.new i h2 h3] at h1
    cases h1
  have idsfresh : ∀ i ∈ ids, ¬ (nid ≤ i ∧ i < n') := by
    rintro i hi ⟨h2, h3⟩
    obtain ⟨_, h, h1, _⟩ := hids i hi
    exact nfresh i h h1 ⟨h2, by omega⟩
  have hkn := hA.nd hidn idsfresh
  have hkA : (keys A).Nodup := by rw [hA.ks]; exact hkn
  let Q' : QM := fun i => match look A i with | some p => p | none => Q i
  have hagr : Agr A ob (H.app { del := dl ++ fz, put := ob }).kd Q' := by
    constructor
    · intro i p hi
      simp only [Q', look_of_mem hkA hi]
    · intro i b hi
      simp [Hp.kd, Hp.app_put (δ := { del := dl ++ fz, put := ob }) (look_of_mem hkn hi)]
  have lookA : ∀ {i : Nat} {b : Ob}, look ob i = some b → ∃ p, look A i = some p := by
    intro i b h
    have : i ∈ keys A := by rw [hA.ks]; exact look_mem h
    exact look_some this
  have inA : ∀ {i : Nat} {b' : Ob} {b o : Nat}, look ob i = some b' → Q' i = some (b, o) → (i, some (b, o)) ∈ A := by
    intro i b' b o h1 h2
    obtain ⟨p, hp⟩ := lookA h1
    simp only [Q', hp] at h2
    subst h2
    exact mem_of_look hp
  have inBs : ∀ {i b o : Nat}, (i, some (b, o)) ∈ A → b ∈ bs' := by
    intro i b o h
    rw [← hA.bl]
    exact List.mem_filterMap.2 ⟨_, h, rfl⟩
  have hg : Chg H Q Q' w w' fz nid { del := dl ++ fz, put := ob } := by
    refine ⟨ha.qt, ha.size, ?_, ?_, ?_, ?_, ?_, ?_, ?_, ?_⟩
    · intro id h b o h1 h2 h3
      rcases h3 with h3 | h3
      · right
        have hnb : b ∉ bs := by
          intro hb
          obtain ⟨id2, h4, h5, o2, h6, h7⟩ := hbsown b hb
          have := hw.inj id2 id _ _ _ _ _ h6 h1 h7 h2
          subst this
          exact h3 (by simp [Dl.ids, h4])
        simp only [bsize, ha.kept b (hw.own id h b o h1 h2).1 hnb]
      · left
        cases e : look ob id with
        | none => exact absurd e h3
        | some b' =>
          rcases hA.rng id (look_mem e) with h4 | h4
          · exact absurd ⟨h4.1, by omega⟩ (nfresh id h h1)
          · obtain ⟨_, h', h5, h6⟩ := hids id h4
            rw [h1] at h5; cases h5; exact h6
    · intro b hb
      by_cases hm : b ∈ bs
      · obtain ⟨id2, h4, h5, o2, h6, h7⟩ := hbsown b hm
        exact .inr ⟨id2, h5, o2, by simp [Dl.ids, h4], fun hi => hap id2 (hfzsn id2 hi) h4, h6, h7⟩
      · exact .inl (ha.kept b hb hm)
    · intro id hi
      have : look A id = none := by
        rw [look_none]
        have e := hA.ks
        simp only [keys] at e
        rw [e]
        simp only [Dl.ids, List.mem_append, not_or] at hi
        exact hi.2
      simp only [Q', this]
    · intro s hs
      refine ⟨by simp [hs], ?_⟩
      rw [look_none]
      intro hk
      rcases hA.rng s hk with h4 | h4
      · obtain ⟨h, h1, _⟩ := hfzo s hs
        exact nfresh s h h1 ⟨h4.1, by omega⟩
      · exact hap s (hfzsn s hs) (hids s h4).1
    · intro s hs
      rcases List.mem_append.1 hs with hs | hs
      · exact hdl s hs
      · exact hfzo s hs
    · intro id b hl
      have hmem := mem_of_look hl
      by_cases hfr : nid ≤ id ∧ id < nid + 8
      · exact .inl ⟨hf.new id hfr.1 hfr.2, hfr⟩
      · right
        have hfr' : ¬ (nid ≤ id ∧ id < n') := by omega
        rcases hA.rng id (look_mem hl) with h4 | h4
        · exact absurd h4 hfr'
        · obtain ⟨h5, h, h6, h7⟩ := hids id h4
          obtain ⟨h', h8, h9⟩ := hdl id h5
          rw [h6] at h8; cases h8
          refine ⟨h, h6, h9, by rw [h7, hA.obs id b hmem h4 hfr'], ?_⟩
          obtain ⟨p, hp⟩ := lookA hl
          obtain ⟨j, b2, g1, g2, g3⟩ := hA.bxs id p (mem_of_look hp) h4 hfr'
          simp only [Q', hp, g3, hbx.2 j id b2 g1 g2]
    · intro id b' b o hl hq
      have hb := inBs (inA hl hq)
      obtain ⟨h1, h2⟩ := ha.from_ b hb
      refine ⟨h2, ?_⟩
      rcases h1 with h1 | h1
      · obtain ⟨id2, h4, h5, o2, h6, h7⟩ := hbsown b h1
        exact .inr ⟨id2, h5, o2, by simp [Dl.ids, h4], fun hi => hap id2 (hfzsn id2 hi) h4, h6, h7⟩
      · exact .inl h1
    · intro id id' b1 b2 b o o' h1 h2 h3 h4
      exact blocks_inj (by rw [hA.bl]; exact ha.nodup) (inA h1 h3) (inA h2 h4)
  have hval := hA.val _ _ hagr
  have hst := hg.stepI (N := N) hw (by
    rintro b ⟨h1, h2, h3⟩
    refine ⟨h2, ?_, fun id b' o h4 h5 => h3 (inBs (inA h4 h5))⟩
    rcases h1 with h1 | h1
    · exact .inl h1
    · obtain ⟨id2, h4, h5, o2, h6, h7⟩ := hbsown b h1
      exact .inr ⟨id2, h5, o2, by simp [Dl.ids, h4], h6, h7⟩) hf.ob (fun id b hl => hval.2 id b (mem_of_look hl))
  refine ⟨Q', _, hst.1, hst.2, ?_⟩
  rw [ha.val]
  exact tup_R hval.1
end
end Go.Ev
