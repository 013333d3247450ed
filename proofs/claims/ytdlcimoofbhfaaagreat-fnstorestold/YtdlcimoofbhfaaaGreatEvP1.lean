/- A part of the proof. -/
import Derived.Test.YtdlcimoofbhfaaaGreatEvO9
import Derived.Laws.AppendOwn
import Derived.Laws.MakeOwn
set_option linter.all false
set_option linter.constructorNameAsVariable false
set_option linter.unusedVariables false
set_option linter.unusedSimpArgs false
namespace Go.Ev
theorem free_zero (n : Nat) : free (0, 0) n := fun j _ => by omega
theorem freeB_zero (rs : List Sh) (n : Nat) : freeB rs (0, 0) n := ⟨free_zero n, .inr (by omega)⟩
def Rows (P : Program) (w : World) (Im : IM) (rs : List Sh) : List (tyL rs) → List Value → Prop
  | [], us => us = []
  | r :: l, us => ∃ vs us', us = vs ++ us' ∧ CR P rs r w Im vs ∧ Rows P w Im rs l us'
section
variable {P : Program} {w w' : World} {Im Im' : IM} {rs : List Sh}
theorem Rows.length : ∀ {l : List (tyL rs)} {us : List Value}, Rows P w Im rs l us → us.length = l.length * rs.length
  | [], us, h => by simp only [Rows] at h; simp [h]
  | r :: l, us, h => by
    simp only [Rows] at h
    obtain ⟨vs, us', rfl, h1, h2⟩ := h
    rw [List.length_append, CR_length rs r h1, Rows.length h2, List.length_cons, Nat.add_mul]
    omega
theorem Rows.mono (hm : ∀ b, Im b → Im' b ∧ w'.heap[b]? = w.heap[b]?) : ∀ {l : List (tyL rs)} {us : List Value}, Rows P w Im rs l us → Rows P w' Im' rs l us
  | [], us, h => by simpa only [Rows] using h
  | r :: l, us, h => by
    simp only [Rows] at h ⊢
    obtain ⟨vs, us', rfl, h1, h2⟩ := h
    exact ⟨vs, us', rfl, CR_mono rs r hm h1, Rows.mono hm h2⟩
theorem Rows.append : ∀ {l m : List (tyL rs)} {us vs : List Value}, Rows P w Im rs l us → Rows P w Im rs m vs → Rows P w Im rs (l ++ m) (us ++ vs)
  | [], m, us, vs, h, h' => by simp only [Rows] at h; subst h; simpa using h'
  | r :: l, m, us, vs, h, h' => by
    simp only [Rows] at h
    obtain ⟨vs', us', rfl, h1, h2⟩ := h
    simp only [List.cons_append, Rows]
    exact ⟨vs', us' ++ vs, by simp, h1, Rows.append h2 h'⟩
theorem Rows.get : ∀ {l : List (tyL rs)} {us : List Value}, Rows P w Im rs l us → ∀ (i : Nat) r, l[i]? = some r → ∃ vs, CR P rs r w Im vs ∧ ∀ (j : Nat) u, vs[j]? = some u → us[i * rs.length + j]? = some u
  | [], us, h, i, r, hr => by simp at hr
  | a :: l, us, h, 0, r, hr => by
    simp only [Rows] at h
    obtain ⟨vs, us', rfl, h1, h2⟩ := h
    simp at hr; subst hr
    refine ⟨vs, h1, fun j u hj => ?_⟩
    have := (List.getElem?_eq_some_iff.1 hj).1
    rw [Nat.zero_mul, Nat.zero_add, List.getElem?_append_left this]
    exact hj
  | a :: l, us, h, i + 1, r, hr => by
    simp only [Rows] at h
    obtain ⟨vs, us', rfl, h1, h2⟩ := h
    simp at hr
    obtain ⟨vs', h3, h4⟩ := Rows.get h2 i r hr
    refine ⟨vs', h3, fun j u hj => ?_⟩
    have hl := CR_length rs a h1
    rw [List.getElem?_append_right (by rw [hl, Nat.add_mul]; omega), hl]
    have : (i + 1) * rs.length + j - rs.length = i * rs.length + j := by rw [Nat.add_mul]; omega
    rw [this]
    exact h4 j u hj
theorem Rows.of : ∀ (l : List (tyL rs)) (f : Nat → Option Value) (o : Nat), (∀ (i : Nat) r, l[i]? = some r → ∃ vs, CR P rs r w Im vs ∧ ∀ (j : Nat) u, vs[j]? = some u → f (o + i * rs.length + j) = some u) →
    ∃ us, Rows P w Im rs l us ∧ ∀ (j : Nat) u, us[j]? = some u → f (o + j) = some u
  | [], f, o, h => ⟨[], by simp only [Rows], fun j u hj => by simp at hj⟩
  | r :: l, f, o, h => by
    obtain ⟨vs, h1, h2⟩ := h 0 r rfl
    obtain ⟨us, h3, h4⟩ := Rows.of l f (o + rs.length) (fun i r' hr => by
      obtain ⟨vs', h5, h6⟩ := h (i + 1) r' (by simpa using hr)
      refine ⟨vs', h5, fun j u hj => ?_⟩
      have := h6 j u hj
      rwa [Nat.add_mul, Nat.one_mul, show o + (i * rs.length + rs.length) + j = o + rs.length + i * rs.length + j by omega] at this)
    have hl := CR_length rs r h1
    refine ⟨vs ++ us, by simp only [Rows]; exact ⟨vs, us, rfl, h1, h3⟩, fun j u hj => ?_⟩
    by_cases hlt : j < vs.length
    · rw [List.getElem?_append_left hlt] at hj
      have := h2 j u hj
      simpa using this
    · rw [List.getElem?_append_right (by omega)] at hj
      have := h4 _ u hj
      rwa [show o + rs.length + (j - vs.length) = o + j by omega] at this
theorem CR_ones : ∀ (rs : List Sh) (x : tyL rs) (vs : List Value), CR P rs x w Im vs → ∀ u ∈ vs, u.oneCell' = true
  | [], x, vs, h, u, hu => by simp only [CR] at h; subst h; cases hu
  | [a], x, vs, h, u, hu => by
    simp only [CR] at h
    obtain ⟨v, rfl, h1⟩ := h
    simp at hu; subst hu
    exact VR_one a x h1
  | a :: c :: r, x, vs, h, u, hu => by
    simp only [CR] at h
    obtain ⟨v, vs', rfl, h1, h2⟩ := h
    rcases List.mem_cons.1 hu with rfl | hu
    · exact VR_one a x.1 h1
    · exact CR_ones (c :: r) x.2 vs' h2 u hu
theorem Rows.ones : ∀ {l : List (tyL rs)} {us : List Value}, Rows P w Im rs l us → ∀ u ∈ us, u.oneCell' = true
  | [], us, h, u, hu => by simp only [Rows] at h; subst h; cases hu
  | r :: l, us, h, u, hu => by
    simp only [Rows] at h
    obtain ⟨vs, us', rfl, h1, h2⟩ := h
    rcases List.mem_append.1 hu with hu | hu
    · exact CR_ones rs r vs h1 u hu
    · exact Rows.ones h2 u hu
theorem ObR.mk {K : Nat → Option Kd} {Q : QM} {id b o : Nat} {l : List (tyL rs)} {us : List Value} {cs : Array Value} {e : TypeId} {fz : Nat × Nat} (hq : Q id = some (b, o)) (hb : w.heap[b]? = some (.cells cs e fz)) (hfz : freeB rs fz cs.size) (h : Rows P w Im rs l us)
    (hc : ∀ (j : Nat) u, us[j]? = some u → cs[o + j]? = some u) (hle : o + l.length * rs.length ≤ cs.size) : ObR P w Im K Q id (.buf rs l) := by
  refine .inr ⟨b, o, cs, e, fz, hq, hb, hfz, hle, fun i r hr => ?_⟩
  obtain ⟨vs, h1, h2⟩ := h.get i r hr
  exact ⟨vs, h1, fun j u hj => by rw [Nat.add_assoc]; exact hc _ u (h2 j u hj)⟩
theorem ObR.rows {K : Nat → Option Kd} {Q : QM} {id : Nat} {l : List (tyL rs)} (h : ObR P w Im K Q id (.buf rs l)) : (Q id = none ∧ l = []) ∨ ∃ b o cs e fz us, Q id = some (b, o) ∧ w.heap[b]? = some (.cells cs e fz) ∧ freeB rs fz cs.size ∧
    o + l.length * rs.length ≤ cs.size ∧ Rows P w Im rs l us ∧ ∀ (j : Nat) u, us[j]? = some u → cs[o + j]? = some u := by
  rcases h with h | ⟨b, o, cs, e, fz, a1, a2, a3, a4, a5⟩
  · exact .inl h
  · obtain ⟨us, h1, h2⟩ := Rows.of (P := P) (w := w) (Im := Im) l (fun k => cs[k]?) o a5
    exact .inr ⟨b, o, cs, e, fz, us, a1, a2, a3, a4, h1, h2⟩
end
section
variable {P : Program} {c : Ctx} {H : Hp} {Q : QM} {Im : IM} {w : World} {val : Operand → D} {ρ : Operand → Value} {hpE : Heap} {nid : Nat} {o : Oper} {x : D × Dl}
def WrOk (H : Hp) (ids : List Nat) : Prop := ∀ id ∈ ids, ∃ h, H id = some h ∧ h.ro = false
theorem wr_ok (hsub : ∀ id h, hpE.find id = some h → H id = some h) : ∀ {ids : List Nat}, hpE.wr ids = true → WrOk H ids
  | [], h, id, hi => by cases hi
  | n :: r, h, id, hi => by
    simp only [Heap.wr, Bool.and_eq_true] at h
    rcases List.mem_cons.1 hi with rfl | hi
    · have h1 := h.1
      split at h1
      · rename_i ho hf
        exact ⟨ho, hsub _ _ hf, by simpa using h1⟩
      · cases h1
    · exact wr_ok hsub h.2 id hi
theorem chg_in {id b o' : Nat} {h : HO} {ob : Ob} {w' : World} {sn : List Nat} {cs cs' : Array Value} {e : TypeId} {fz : Nat × Nat} (hw : WR P H Q Im w) (hid : H id = some h) (hro : h.ro = false) (hk : h.ob.kd = ob.kd) (hq : Q id = some (b, o'))
    (hb : w.heap[b]? = some (.cells cs e fz)) (hsp : (w'.heap.size, outside w') = (w.heap.size, outside w)) (hsame : ∀ k, k ≠ b → w'.heap[k]? = w.heap[k]?) (hb' : w'.heap[b]? = some (.cells cs' e fz)) (hcs : cs'.size = cs.size)
    (hsn : WrOk H sn) (hni : id ∉ sn) : Chg H Q Q w w' sn nid { del := sn, put := [(id, ob)] } :=
  have hsz : w'.heap.size = w.heap.size := congrArg Prod.fst hsp
  {
  qt := congrArg Prod.snd hsp
  grow := by rw [hsz]; exact Nat.le_refl _
  bs := fun _ _ k _ _ _ _ => .inr (by
    by_cases hkb : k = b
    · subst hkb; simp only [bsize, hb, hb', hcs]
    · simp only [bsize, hsame k hkb])
  ch := fun k _ => by
    by_cases hkb : k = b
    · subst hkb; exact .inr ⟨id, h, o', by simp [Dl.ids], hni, hid, hq⟩
    · exact .inl (hsame k hkb)
  qs := fun _ _ => rfl
  fro := fun s hs => ⟨hs, by
    simp only [look]
    rw [if_neg (by rintro rfl; exact hni hs)]⟩
  del := hsn
  kd := fun i ob' hl => by
    simp only [look] at hl
    split at hl
    · rename_i hi; subst hi; cases hl; exact .inr ⟨h, hid, hro, hk, rfl⟩
    · cases hl
  own := fun i ob' b2 o2 hl hq2 => by
    simp only [look] at hl
    split at hl
    · rename_i hi; subst hi
      refine ⟨?_, .inr ⟨id, h, o2, by simp [Dl.ids], hni, hid, hq2⟩⟩
      rw [hsz]; exact (hw.own _ _ _ _ hid hq2).1
    · cases hl
  inj := fun i i' ob1 ob2 b2 o2 o3 h1 h2 _ _ => by
    simp only [look] at h1 h2
    split at h1 <;> split at h2 <;> first | (cases h1; done) | (cases h2; done) | (rename_i e1 e2; rw [← e1, e2]) }
def QM.put (Q : QM) (id : Nat) (p : Option (Nat × Nat)) : QM := fun i => if i = id then p else Q i
theorem chg_new {ob : Ob} {w' : World} {dl sn : List Nat} {cs : Array Value} {e : TypeId} {fz : Nat × Nat} (hw : WR P H Q Im w) (hnew : H nid = none)
    (hp : (w'.heap, outside w') = (w.heap.push (.cells cs e fz), outside w)) (hdl : WrOk H dl) (hsn : ∀ s ∈ sn, s ∈ dl) :
    Chg H Q (Q.put nid (some (w.heap.size, 0))) w w' sn nid { del := dl, put := [(nid, ob)] } :=
  have hh : w'.heap = w.heap.push (.cells cs e fz) := congrArg Prod.fst hp
  {
  qt := congrArg Prod.snd hp
  grow := by rw [hh]; simp
  bs := fun id h k o2 hid hq2 _ => .inr (by
    have hk := (hw.own id h k o2 hid hq2).1
    have : (w.heap.push (.cells cs e fz))[k]? = w.heap[k]? := by
      rw [Array.getElem?_push]; rw [if_neg (by omega)]
    simp only [bsize, hh, this])
  ch := fun k hk => by
    left
    rw [hh, Array.getElem?_push, if_neg (by omega)]
  qs := fun i hi => by
    simp only [Dl.ids, List.map_cons, List.map_nil, List.mem_append, List.mem_singleton, not_or] at hi
    simp only [QM.put, if_neg hi.2]
  fro := fun s hs => ⟨hsn s hs, by
    simp only [look]
    rw [if_neg]
    rintro rfl
    obtain ⟨h, h1, _⟩ := hdl _ (hsn _ hs)
    rw [hnew] at h1; cases h1⟩
  del := hdl
  kd := fun i ob' hl => by
    simp only [look] at hl
    split at hl
    · rename_i hi; subst hi; exact .inl ⟨hnew, Nat.le_refl _, by omega⟩
    · cases hl
  own := fun i ob' b2 o2 hl hq2 => by
    simp only [look] at hl
    split at hl
    · rename_i hi; subst hi
      simp only [QM.put, if_true] at hq2
      cases hq2
      rw [hh]
      exact ⟨by simp, .inl (Nat.le_refl _)⟩
    · cases hl
  inj := fun i i' ob1 ob2 b2 o2 o3 h1 h2 _ _ => by
    simp only [look] at h1 h2
    split at h1 <;> split at h2 <;> first | (cases h1; done) | (cases h2; done) | (rename_i e1 e2; rw [← e1, e2]) }
structure Fr (H : Hp) (val : Operand → D) (nid : Nat) : Prop where
  ob : ∀ id h, H id = some h → ∀ i ∈ obIds h.ob, ¬ (nid ≤ i ∧ i < nid + 8)
  val : ∀ y, ∀ i ∈ idsD (val y), ¬ (nid ≤ i ∧ i < nid + 8)
  new : ∀ i, nid ≤ i → i < nid + 8 → H i = none
theorem sim_of {u : Value} {w' : World} {Q' : QM} {Im' : IM} (hr : (execOp ρ o).run P w = .ok (.value u) w') (h : WR P (H.app x.2) Q' Im' w' ∧ Trans H (H.app x.2) Q Q' Im Im' w w' x.2.ids nid)
    (hd : DR P w' Im' (H.app x.2).kd Q' x.1 u) : Sim P H Q Im w ρ o nid x := by
  unfold Sim OpDoes
  rw [hr]
  exact ⟨Q', Im', h.1, h.2, hd⟩
theorem sim_skip {w' : World} {Q' : QM} {Im' : IM} (hr : (execOp ρ o).run P w = .ok .skip w') (h : WR P (H.app x.2) Q' Im' w' ∧ Trans H (H.app x.2) Q Q' Im Im' w w' x.2.ids nid)
    (hd : x.1 = .un) : Sim P H Q Im w ρ o nid x := by
  unfold Sim OpDoes
  rw [hr]
  exact ⟨Q', Im', h.1, h.2, by rw [hd]; simp only [DR]⟩
theorem idsL_leaves : ∀ (d : D), ∀ i ∈ idsL (leaves d), i ∈ idsD d := by
  intro d i hi
  cases d <;> simp only [leaves, idsL, idsD, List.append_nil, List.not_mem_nil] at hi ⊢ <;> exact hi
theorem sim_newbox (hw : WR P H Q Im w) (hf : Fr H val nid) {e : TypeId} {ds : List D} {us : List Value} {u : Value} (hds : DRL P w Im H.kd Q ds us) (hids : ∀ i ∈ idsL ds, ¬ (nid ≤ i ∧ i < nid + 8))
    (hr : (execOp ρ o).run P w = .ok (.value (.pointer (some ⟨w.heap.size, 0, none⟩))) (w.alloc (.cells us.toArray e))) (hx : x = (.ptr nid 0, { put := [(nid, .box ds)] })) : Sim P H Q Im w ρ o nid x := by
  subst hx
  have hg : Chg H Q (Q.put nid (some (w.heap.size, 0))) w (w.alloc (.cells us.toArray e)) [] nid { del := [], put := [(nid, .box ds)] } :=
    chg_new (cs := us.toArray) (e := e) hw (hf.new nid (Nat.le_refl _) (by omega)) rfl (fun i hi => by cases hi) (fun i hi => by cases hi)
  have hst := hg.step hw hf.ob (fun id ob hl => by
    simp only [look] at hl
    split at hl
    · rename_i hi; subst hi; cases hl
      refine ⟨w.heap.size, us, e, (0, 0), by simp [QM.put], heap_alloc_new w _, free_zero _, DRL_mono (hg.imm hw) ds us (fun i hi => hg.refs hw i (hids i hi)) hds⟩
    · cases hl)
  refine sim_of hr hst ?_
  simp only [DR]
  exact ⟨rfl, fun _ => ⟨w.heap.size, by simp [QM.put], rfl⟩⟩
theorem idsL_zero : ∀ (rs : List Sh), idsL (rs.map zeroD) = []
  | [] => rfl
  | a :: r => by
    simp only [List.map_cons, idsL, idsL_zero r, List.append_nil]
    cases a <;> rfl
theorem sim_alloc (hc : CtxOk P c) (hw : WR P H Q Im w) (hf : Fr H val nid) {e : TypeId} (ho : o.op = .alloc e)
    (h : Reach c.okp (evOp c val hpE nid (.alloc e)) x) : Sim P H Q Im w ρ o nid x := by
  simp only [evOp] at h
  split at h
  · cases h
  · rename_i h0
    cases h
    rcases hc.ti e with h1 | ⟨_, ht⟩
    · rw [h1.1] at h0; simp at h0
    · obtain ⟨i, z, hi, hsz, hz, hzc⟩ := ht.info
      refine sim_newbox hw hf (e := e) (u := .nilIface) (zeroD_R _ _ hzc) (by rw [idsL_zero]; intro i hi; cases hi) ?_ rfl
      simp [execOp, ho, Instr.alloc, run_zeroValue hi hz, newVar, newRow]
theorem sim_box (hc : CtxOk P c) (hw : WR P H Q Im w) (hv : ∀ x, DR P w Im H.kd Q (val x) (ρ x)) (hf : Fr H val nid) {e : TypeId} {y : Operand} (ho : o.op = .box e y)
    (h : Reach c.okp (evOp c val hpE nid (.box e y)) x) : Sim P H Q Im w ρ o nid x := by
  simp only [evOp] at h
  split at h
  · rename_i h0
    cases h
    refine sim_newbox hw hf (e := e) (u := .nilIface) (leaves_cells h0.2.2 (hv y)) (fun i hi => hf.val y i (idsL_leaves _ i hi)) ?_ rfl
    simp [execOp, ho, Instr.box, newVar, newRow]
  · cases h
end
end Go.Ev
