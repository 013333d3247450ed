/- A part of the proof. -/
import Derived.Test.YtdlcimoofbhfaaaGreatEvT4b
set_option linter.all false
set_option linter.constructorNameAsVariable false
set_option linter.unusedVariables false
set_option linter.unusedSimpArgs false
namespace Go.Ev
def done (listed : Array Bool) (i : Nat) : Bool := listed.getD i false
def left (n : Nat) (listed : Array Bool) : Nat := ((List.range n).filter fun i => !done listed i).length
theorem done_set {listed : Array Bool} {j : Nat} (hj : j < listed.size) : done (listed.setIfInBounds j true) = plus (done listed) j := by
  funext i
  simp only [done, plus, Array.getD_eq_getD_getElem?, Array.getElem?_setIfInBounds]
  by_cases e : j = i
  · subst e; simp [hj]
  · rw [if_neg e, show (i == j) = false by simpa using fun h => e h.symm]; simp
theorem left_zero {n : Nat} {listed : Array Bool} (h : left n listed = 0) : ∀ i, i < n → done listed i = true := by
  intro i hi
  unfold left at h
  rw [List.length_eq_zero_iff, List.filter_eq_nil_iff] at h
  have := h i (by simpa using hi)
  simpa using this
theorem filter_lt {α : Type} {p q : α → Bool} : ∀ {l : List α}, (∀ x ∈ l, q x = true → p x = true) → (∃ x ∈ l, p x = true ∧ q x = false) → (l.filter q).length < (l.filter p).length
  | [], h, he => by obtain ⟨x, hx, _⟩ := he; cases hx
  | y :: r, h, he => by
    have mono : (r.filter q).length ≤ (r.filter p).length := by
      clear he
      induction r with
      | nil => simp
      | cons z s ih =>
        have := ih (fun x hx => h x (by
          rcases List.mem_cons.1 hx with rfl | hx
          · simp
          · simp [hx]))
        simp only [List.filter_cons]
        by_cases hq : q z = true
        · rw [if_pos hq, if_pos (h z (by simp) hq)]; simpa using this
        · rw [if_neg hq]
          split
          · simp only [List.length_cons]; omega
          · exact this
    simp only [List.filter_cons]
    by_cases hq : q y = true
    · have hp := h y (by simp) hq
      rw [if_pos hq, if_pos hp]
      have : (r.filter q).length < (r.filter p).length := filter_lt (fun x hx => h x (by simp [hx])) (by
        obtain ⟨x, hx, h1, h2⟩ := he
        rcases List.mem_cons.1 hx with rfl | hx
        · rw [hq] at h2; cases h2
        · exact ⟨x, hx, h1, h2⟩)
      simpa using this
    · rw [if_neg hq]
      by_cases hp : p y = true
      · rw [if_pos hp]; simp only [List.length_cons]; omega
      · rw [if_neg hp]
        exact filter_lt (fun x hx => h x (by simp [hx])) (by
          obtain ⟨x, hx, h1, h2⟩ := he
          rcases List.mem_cons.1 hx with rfl | hx
          · exact absurd h1 hp
          · exact ⟨x, hx, h1, h2⟩)
theorem left_set {n j : Nat} {listed : Array Bool} (hj : j < listed.size) (hn : j < n) (h : done listed j = false) : left n (listed.setIfInBounds j true) < left n listed := by
  unfold left
  rw [done_set hj]
  refine filter_lt (fun i hi h1 => ?_) ⟨j, by simpa using hn, by simp [h], by simp [plus]⟩
  simp only [plus, Bool.not_eq_true', Bool.or_eq_false_iff] at h1
  simp [h1.2]
theorem yielded_none {ops : Array Oper} {tmps : Array Value} {j t : Nat} (h : guardDst ops j = some t) (hv : tmps.getD t undef = undef) : yielded ops tmps j = none := yielded_sk h hv
section
variable {P : Program} {c : Ctx} {ops : Array Oper} {R : Nat → Rec} {V0 : Nat → D} {H0 : Hp} {B : Nat} {Qp : Exit → Act → World → Prop}
abbrev stV (R : Nat → Rec) (V0 : Nat → D) (S : Nat → Bool) (n : Nat) : Nat → D := fun t => VS R V0 S t n
abbrev stH (R : Nat → Rec) (H0 : Hp) (S : Nat → Bool) (n : Nat) : Hp := fun id => HS R H0 S id n
theorem guard_looks {o : Oper} {k : Nat} {want : Bool} {t : Nat} (hg : o.guard = some (k, want)) (ht : guardDst ops k = some t) : t ∈ o.looksAt ops := by
  simp only [Oper.looksAt, hg, List.mem_append]
  right
  unfold guardDst at ht
  cases e : ops[k]? with
  | none => rw [e] at ht; cases ht
  | some o' => rw [e] at ht; simp [ht]
theorem Facts.one (F : Facts P c ops R V0 H0 B) {S : Nat → Bool} {j : Nat} (h : Ready ops R S j) {a : Act} {w : World} {Q : QM} {Im : IM}
    (hI : InvF P (stH R H0 S ops.size) (stV R V0 S ops.size) (AS B S) a w Q Im) (hd : ∀ (k : Nat) (o : Oper) (d : Nat), ops[k]? = some o → o.dst = some d → d < a.tmps.size) {K : Act → World → Prop}
    (hK : ∀ a' w' Q' Im', InvF P (stH R H0 (plus S j) ops.size) (stV R V0 (plus S j) ops.size) (AS B (plus S j)) a' w' Q' Im' → Since B (stH R H0 S ops.size) Q Im w (stH R H0 (plus S j) ops.size) Q' Im' w' → TK ((ops.toList).filterMap (·.dst)) a a' → K a' w') :
    wpOp P ops Qp j K a w := by
  obtain ⟨hst, hgood, hop⟩ := F.st j h.lt
  have hnd : ∀ d, (R j).o.dst = some d → d < a.tmps.size := fun d hd' => hd j _ d hop hd'
  have hdst : ∀ n, (R j).o.dst = some n → n ∈ (ops.toList).filterMap (·.dst) := by
    intro n hn
    refine List.mem_filterMap.2 ⟨(R j).o, ?_, hn⟩
    have := Array.mem_of_getElem? hop
    simpa using this
  have hAA : ∀ i, AS B S i → AS B (plus S j) i := by
    rintro i (h1 | ⟨k, h1, h2⟩)
    · exact .inl h1
    · exact .inr ⟨k, by simp [plus, h1], h2⟩
  have hAn : ∀ i, AS B S i → ¬ (B + 8 * j ≤ i ∧ i < B + 8 * j + 8) := by
    rintro i (h1 | ⟨k, h1, h2, h3⟩) ⟨h4, h5⟩
    · omega
    · have : k = j := by omega
      subst this; rw [h.no] at h1; cases h1
  have heqV : (fun t => if (R j).o.dst = some t then nrm (R j).d else VS R V0 S t ops.size) = stV R V0 (plus S j) ops.size := by funext t; exact (F.plusV h t).symm
  have heqH : (fun i => appAt (R j).δ i (stH R H0 S ops.size i)) = stH R H0 (plus S j) ops.size := by funext i; exact (F.plusH h i).symm
  have hguard : ∀ k want t, (R j).o.guard = some (k, want) → guardDst ops k = some t → DR P w Im (Hp.kd (stH R H0 S ops.size)) Q ((R j).σ.get t) (a.eval (.tmp t)) := by
    intro k want t hg ht
    have h1 := hI.val t
    rw [show stV R V0 S ops.size t = nrm ((R j).σ.get t) from F.val h (guard_looks hg ht)] at h1
    exact nrm_DR.1 h1
  unfold wpOp
  rw [hop]
  dsimp only
  cases hx : (R j).x with
  | none =>
    obtain ⟨k, want, t, hg, ht, hv⟩ := hgood.no hx
    have hw : Region.wanted (R j).o (yielded ops a.tmps) = false := by
      have h1 := hguard k want t hg ht
      rcases hv with hv | hv
      · rw [hv] at h1; simp only [DR, Act.eval] at h1
        simp [Region.wanted, hg, yielded_sk ht h1]
      · have h2 := nrm_DR.2 h1
        rw [hv] at h2; simp only [DR, VR, Act.eval] at h2
        simp only [Region.wanted, hg, yielded_of ht h2]
        cases want <;> rfl
    rw [hw]
    simp only [Bool.false_eq_true, if_false]
    refine hK _ w Q Im ?_ ?_ (TK.put hdst)
    · have := hI.skip (dst := (R j).o.dst) hAA hnd
      rw [← heqV, ← heqH]
      simp only [Rec.d, Rec.δ, hx, appAt_none, nrm]
      exact this
    · rw [← heqH]
      simp only [Rec.δ, hx, appAt_none]
      exact Since.refl
  | some x =>
    obtain ⟨hg, hr, hid⟩ := hgood.go x hx
    have hw : Region.wanted (R j).o (yielded ops a.tmps) = true := by
      rcases hg with hg | ⟨k, want, t, hg, ht, hv⟩
      · simp [Region.wanted, hg]
      · have h1 := hguard k want t hg ht
        have h2 := nrm_DR.2 h1
        rw [hv] at h2; simp only [DR, VR, Act.eval] at h2
        simp only [Region.wanted, hg, yielded_of ht h2]
        cases want <;> rfl
    rw [hw, if_pos rfl]
    left
    let val' : Operand → D := fun y => match y with
      | .tmp t => if t ∈ (R j).o.looksAt ops then (R j).σ.get t else .un
      | y => (R j).σ.val y
    have hcg : evOp c (R j).σ.val ((R j).σ.hp.only (R j).ft) (B + 8 * j) (R j).o.op = evOp c val' ((R j).σ.hp.only (R j).ft) (B + 8 * j) (R j).o.op := by
      refine evOp_congr _ fun y hy => ?_
      cases y with
      | tmp t =>
        have : t ∈ (R j).o.looksAt ops := List.mem_append_left _ (List.mem_filterMap.2 ⟨.tmp t, by simpa using hy, rfl⟩)
        simp only [val', if_pos this, LSt.val]
      | const v => rfl
      | func f => rfl
      | global g => rfl
    have hv' : ∀ y, DR P w Im (Hp.kd (stH R H0 S ops.size)) Q (val' y) (a.eval y) := by
      intro y
      cases y with
      | tmp t =>
        simp only [val']
        split
        · rename_i ht
          have h1 := hI.val t
          rw [show stV R V0 S ops.size t = nrm ((R j).σ.get t) from F.val h ht] at h1
          exact nrm_DR.1 h1
        · simp only [DR]
      | const v => simp only [val', LSt.val, Act.eval]; exact DR_ofVal v
      | func f => simp only [val', LSt.val, Act.eval, DR]; exact ⟨[], rfl, by simp only [DRL]⟩
      | global g => simp only [val', LSt.val, DR]
    have hvi : ∀ y, ∀ i ∈ idsD (val' y), AS B S i := by
      intro y i hi
      cases y with
      | tmp t =>
        simp only [val'] at hi
        split at hi
        · rename_i ht
          refine hI.vb t i ?_
          rw [show stV R V0 S ops.size t = nrm ((R j).σ.get t) from F.val h ht, nrm_ids]
          exact hi
        · cases hi
      | const v => simp only [val', LSt.val, idsD_ofVal] at hi; cases hi
      | func f => simp only [val', LSt.val, idsD, idsL] at hi; cases hi
      | global g => simp only [val', LSt.val, idsD] at hi; cases hi
    have hsub : ∀ id h', ((R j).σ.hp.only (R j).ft).find id = some h' → stH R H0 S ops.size id = some h' := by
      intro id h' hf
      obtain ⟨g1, g2⟩ := find_only _ _ _ _ hf
      show HS R H0 S id ops.size = some h'
      rw [F.obj h (by rw [hx]; simp) g1, g2]
    have hfr : Fr (stH R H0 S ops.size) val' (B + 8 * j) := by
      refine ⟨fun id h' h1 i hi => hAn i ((hI.ob id h' h1).2 i hi), fun y i hi => hAn i (hvi y i hi), fun i h1 h2 => ?_⟩
      cases e : stH R H0 S ops.size i with
      | none => rfl
      | some h' => exact absurd ⟨h1, h2⟩ (hAn i (hI.ob i h' e).1)
    have hr' : Reach c.okp (evOp c val' ((R j).σ.hp.only (R j).ft) (B + 8 * j) (R j).o.op) x := by
      rw [← hcg]; exact hr
    have hopd := op_sim F.hc hI.wr hv' hsub hfr hr'
    refine OpDoes.wp hopd fun u w' hp => ?_
    have hA' : ∀ i, idIn B j ((befs ops.toList []).getD j 0) i = true → AS B (plus S j) i := by
      intro i hi
      simp only [idIn, Bool.or_eq_true, decide_eq_true_eq, beq_iff_eq] at hi
      rcases hi with h1 | h1 | h1
      · exact .inl h1
      · by_cases hlt : i < B
        · exact .inl hlt
        · exact .inr ⟨j, plus_self, by omega, by omega⟩
      · by_cases hlt : i < B
        · exact .inl hlt
        · exact .inr ⟨(i - B) / 8, by simp [plus, F.bj h _ h1], by omega, by omega⟩
    simp only [idsOkD, Bool.and_eq_true, List.all_eq_true] at hid
    obtain ⟨Q', Im', g1, g2⟩ := hI.step (A' := AS B (plus S j)) (dst := (R j).o.dst) (B := B) hp hAn hAA (fun i hi => hA' i (hid.1 i hi)) (fun p hp => by
      have := hid.2 p hp
      refine ⟨hA' _ this.1, fun i hi => ?_⟩
      obtain ⟨n, ob⟩ := p
      cases ob with
      | box ds => exact hA' i (List.all_eq_true.1 this.2 i hi)
      | buf rs l => cases hi) hnd (by omega)
    have e1 : (R j).d = x.1 := by simp [Rec.d, hx]
    have e2 : (R j).δ = x.2 := by simp [Rec.δ, hx]
    rw [← e1, ← e2, heqV, heqH] at g1
    rw [← e2, heqH] at g2
    exact hK _ w' Q' Im' g1 g2 (TK.put hdst)
theorem Since.down {B' : Nat} {H H' : Hp} {Q Q' : QM} {Im Im' : IM} {w w' : World} (h : Since B H Q Im w H' Q' Im' w') (hB : B' ≤ B) : Since B' H Q Im w H' Q' Im' w' :=
  ⟨h.qt, h.size, h.kept, h.own, h.im, h.im0, fun id hi => h.refs id (by omega), h.ro⟩
theorem Facts.any (F : Facts P c ops R V0 H0 B) {a0 : Act} {w0 : World} {Q0 : QM} {Im0 : IM} {Hs : Hp} (hd : ∀ (k : Nat) (o : Oper) (d : Nat), ops[k]? = some o → o.dst = some d → d < a0.tmps.size)
    (hfin : ∀ a' w' Q' Im', InvF P (stH R H0 (fun _ => true) ops.size) (stV R V0 (fun _ => true) ops.size) (· < B + 8 * ops.size) a' w' Q' Im' → Since B Hs Q0 Im0 w0 (stH R H0 (fun _ => true) ops.size) Q' Im' w' → TK ((ops.toList).filterMap (·.dst)) a0 a' → Qp .normal a' w') :
    ∀ (fuel : Nat) (listed : Array Bool) (a : Act) (w : World) (Q : QM) (Im : IM), listed.size = ops.size → Closed ops (done listed) → left ops.size listed ≤ fuel → InvF P (stH R H0 (done listed) ops.size) (stV R V0 (done listed) ops.size) (AS B (done listed)) a w Q Im →
      Since B Hs Q0 Im0 w0 (stH R H0 (done listed) ops.size) Q Im w → TK ((ops.toList).filterMap (·.dst)) a0 a → wpAny P .any ops Qp fuel listed a w := by
  have hend : ∀ (listed : Array Bool) (a : Act) (w : World) (Q : QM) (Im : IM), listed.size = ops.size → (∀ i, i < ops.size → done listed i = true) → InvF P (stH R H0 (done listed) ops.size) (stV R V0 (done listed) ops.size) (AS B (done listed)) a w Q Im →
      Since B Hs Q0 Im0 w0 (stH R H0 (done listed) ops.size) Q Im w → TK ((ops.toList).filterMap (·.dst)) a0 a → Qp .normal a w := by
    intro listed a w Q Im hsz hall hI hS hT
    have e1 : stH R H0 (done listed) ops.size = stH R H0 (fun _ => true) ops.size := by funext id; exact HS_congr fun i hi _ => hall i hi
    have e2 : stV R V0 (done listed) ops.size = stV R V0 (fun _ => true) ops.size := by funext t; exact VS_congr fun i hi _ => hall i hi
    have hAB : ∀ i, AS B (done listed) i → i < B + 8 * ops.size := by
      rintro i (h | ⟨k, h1, h2, h3⟩)
      · omega
      · have : k < ops.size := by
          rw [← hsz]
          rcases Nat.lt_or_ge k listed.size with h | h
          · exact h
          · simp [done, Array.getElem?_eq_none h] at h1
        omega
    rw [e1, e2] at hI
    rw [e1] at hS
    exact hfin a w Q Im ⟨hI.wr, hI.val, fun id h' hf => ⟨hAB _ (hI.ob id h' hf).1, fun i hi => hAB _ ((hI.ob id h' hf).2 i hi)⟩, fun t i hi => hAB _ (hI.vb t i hi)⟩ hS hT
  have hdr := F.dr
  simp only [drawOk, Bool.and_eq_true] at hdr
  have hback : ∀ (k : Nat) o, ops[k]? = some o → ∀ e ∈ o.after.toList, Region.binds .any e = true → e.on < k := by
    intro k o ho e he hb
    have := backL_ok ops.toList 0 hdr.1 k o (by simpa using ho) e he hb
    simpa using this
  intro fuel
  induction fuel with
  | zero =>
    intro listed a w Q Im hsz hcl hf hI hS hT
    have hall := left_zero (Nat.le_zero.1 hf)
    refine ⟨?_, hend listed a w Q Im hsz hall hI hS hT⟩
    rw [List.eq_nil_iff_forall_not_mem]
    intro i hi
    obtain ⟨h1, o, ho, _⟩ := mem_ready.1 hi
    have hlt : i < ops.size := (Array.getElem?_eq_some_iff.1 ho).1
    have := hall i hlt
    simp only [done, Array.getD_eq_getD_getElem?] at this h1
    rw [Array.getElem?_eq_getElem (by omega)] at this h1
    simp at this h1
    rw [this] at h1; cases h1
  | succ fuel ih =>
    intro listed a w Q Im hsz hcl hf hI hS hT
    refine ⟨fun hnil => ?_, fun j hj => ?_⟩
    · refine hend listed a w Q Im hsz ?_ hI hS hT
      intro i
      induction i using Nat.strongRecOn with
      | _ i ihi =>
        intro hi
        cases e : done listed i with
        | true => rfl
        | false =>
          exfalso
          have : i ∈ Region.ready .any ops listed := by
            refine mem_ready.2 ⟨?_, ops[i], Array.getElem?_eq_getElem hi, fun e' he hb => ?_⟩
            · simp only [done, Array.getD_eq_getD_getElem?] at e ⊢
              rw [Array.getElem?_eq_getElem (by omega)] at e ⊢
              simpa using e
            · have hlt := hback i _ (Array.getElem?_eq_getElem hi) e' (by simpa using he) hb
              exact ihi _ hlt (by omega)
          rw [hnil] at this; cases this
    · obtain ⟨h1, o, ho, haft⟩ := mem_ready.1 hj
      have hlt : j < ops.size := (Array.getElem?_eq_some_iff.1 ho).1
      have hoR : (R j).o = o := by have := (F.st j hlt).2.2; rw [ho] at this; exact (Option.some.inj this).symm
      have hno : done listed j = false := by
        simp only [done, Array.getD_eq_getD_getElem?] at h1 ⊢
        rw [Array.getElem?_eq_getElem (by omega)] at h1 ⊢
        simpa using h1
      have hrdy : Ready ops R (done listed) j := ⟨hcl, hlt, hno, fun e he hb => haft e (by rw [hoR] at he; simpa using he) hb⟩
      refine F.one hrdy hI (fun k o d hk hdd => by rw [hT.size]; exact hd k o d hk hdd) ?_
      intro a' w' Q' Im' hI' hS' hT'
      have hds := done_set (listed := listed) (j := j) (by omega)
      refine ih _ a' w' Q' Im' (by simp [hsz]) ?_ ?_ (by rw [hds]; exact hI') (by rw [hds]; exact hS.trans hS' (Nat.le_refl _)) (hT.trans hT')
      · rw [hds]
        intro k o' ho' hk e he hb
        by_cases ek : k = j
        · subst ek
          rw [ho] at ho'; cases ho'
          have := haft e (by simpa using he) hb
          simp only [plus, done, Bool.or_eq_true]
          exact .inr this
        · rw [plus_ne ek] at hk
          have := hcl k o' ho' hk e he hb
          simp [plus, this]
      · have := left_set (listed := listed) (by omega) hlt hno
        omega
end
section
variable {P : Program} {c : Ctx} {X : Type} {Qf : X → Prop}
theorem sound_draw (hc : CtxOk P c) (hm : P.follows .mixedOrders = true) {id : Nat} {ops : Array Oper} : Sound P c Qf (.region id ops true) := by
  intro n σ Kc As a w Q Im Qp hl hloc hI hd hs hQ
  simp only [ev] at hs
  split at hs
  · rename_i hdr
    obtain ⟨rs, σf, accf, hrun, hlen, hind, hs⟩ := run_of_sat ops.toList 0 σ [] hs
    let r0 : Rec := ⟨default, σ, none⟩
    let R : Nat → Rec := fun k => (rs[k]?).getD r0
    have hR : ∀ k r, rs[k]? = some r → R (0 + k) = r := by intro k r hk; simp [R, hk]
    have hlen' : rs.length = ops.size := by simpa using hlen
    let V0 : Nat → D := fun t => nrm (σ.get t)
    have hS0 : St R V0 σ.hp.find 0 σ := ⟨fun t => rfl, fun id => rfl⟩
    obtain ⟨g1, g2, g3⟩ := run_st (B := σ.nx) hrun hR rfl hS0
    obtain ⟨k1, k2, k3⟩ := run_indep hrun hR hind
    simp only [Nat.zero_add] at g1 g2 k3 hs
    have F : Facts P c ops R V0 σ.hp.find σ.nx := ⟨hc, hdr, fun k hk => by
      have := g1 k (by omega)
      exact ⟨this.1, this.2.1, by simpa using this.2.2⟩, fun k k' h1 h2 h3 h4 => k3 k k' h1 (by omega) h3 h4⟩
    have hdone : done (Array.replicate ops.size false) = fun _ => false := by
      funext i
      simp only [done, Array.getD_eq_getD_getElem?, Array.getElem?_replicate]
      split <;> rfl
    have hz1 : stH R σ.hp.find (fun _ => false) ops.size = σ.hp.find := by
      funext i
      have : ∀ n, HS R σ.hp.find (fun _ => false) i n = σ.hp.find i := by
        intro n
        induction n with
        | zero => rfl
        | succ n ih => simp only [HS]; simpa using ih
      exact this _
    have hz2 : stV R V0 (fun _ => false) ops.size = V0 := by
      funext i
      have : ∀ n, VS R V0 (fun _ => false) i n = V0 i := by
        intro n
        induction n with
        | zero => rfl
        | succ n ih => simp only [VS]; simpa using ih
      exact this _
    have hI0 : InvF P (stH R σ.hp.find (fun _ => false) ops.size) (stV R V0 (fun _ => false) ops.size) (AS σ.nx (fun _ => false)) a { w with drawn := w.drawn + 1 } Q Im := by
      rw [hz1, hz2]
      refine ⟨hI.wr.world rfl, fun t => ?_, fun i h hf => ⟨.inl (hI.ob i h hf).1, fun k hk => .inl ((hI.ob i h hf).2 k hk)⟩, fun t i hi => .inl (hI.vb (.tmp t) i (by simpa only [V0, nrm_ids, LSt.val] using hi))⟩
      have := hI.val (.tmp t)
      simp only [LSt.val] at this
      refine nrm_DR.2 ?_
      exact DR_mono (w := w) (w' := { w with drawn := w.drawn + 1 }) (fun b hb => ⟨hb, rfl⟩) _ _ (fun i _ => ⟨.inr ⟨rfl, rfl, fun b o _ => .inr rfl⟩⟩) this
    refine wp_region_any hm (F.any (a0 := a) (w0 := w) (Q0 := Q) (Im0 := Im) (Hs := σ.hp.find) (fun k o d hk hdd => hd d ?_) ?_ ops.size _ a _ Q Im (by simp) ?_ ?_ (by rw [hdone]; exact hI0) ?_ TK.refl)
    · simp only [dsts, List.mem_filterMap]
      exact ⟨o, by have := Array.mem_of_getElem? hk; simpa using this, hdd⟩
    · intro a' w' Q' Im' hI' hS' hT'
      have hff : stH R σ.hp.find (fun _ => true) ops.size = σf.hp.find := by
        funext i; rw [hlen'] at g2; exact (g2.hp i).symm
      rw [hff] at hI' hS'
      have hIf : Inv P σf (σf.nx + 8 * ops.size) a' w' Q' Im' := by
        rw [g3]
        rw [hlen'] at g2
        refine ⟨hI'.wr, ?_, hI'.ob, ?_⟩
        · intro y
          cases y with
          | tmp t =>
            have := hI'.val t
            rw [show stV R V0 (fun _ => true) ops.size t = nrm (σf.get t) from (g2.get t).symm] at this
            exact nrm_DR.1 this
          | const v => simp only [LSt.val, Act.eval]; exact DR_ofVal v
          | func f => simp only [LSt.val, Act.eval, DR]; exact ⟨[], rfl, by simp only [DRL]⟩
          | global g => simp only [LSt.val, DR]
        · intro y
          cases y with
          | tmp t =>
            have := hI'.vb t
            rw [show stV R V0 (fun _ => true) ops.size t = nrm (σf.get t) from (g2.get t).symm, nrm_ids] at this
            exact this
          | const v => simp only [LSt.val, idsD_ofVal]; intro i hi; cases hi
          | func f => simp only [LSt.val, idsD, idsL]; intro i hi; cases hi
          | global g => simp only [LSt.val, idsD]; intro i hi; cases hi
      have hlen2 : ops.toList.length = ops.size := by simp
      rw [hlen2] at hs
      exact hQ n .normal (finSt c ops.size σf) As a' w' Q' Im' hl ⟨[], by simp⟩ rfl hIf.fin (by exact hS') (by simpa only [dsts] using hT') (by simp only [finSt, g3]; omega) hs
    · rw [hdone]; intro k o hk h; cases h
    · unfold left
      have := List.length_filter_le (fun i => !done (Array.replicate ops.size false) i) (List.range ops.size)
      simpa using this
    · rw [hdone, hz1]
      exact ⟨rfl, Nat.le_refl _, fun _ _ _ => rfl, fun id h b o h1 h2 => .inr ⟨id, h, o, h1, h2⟩, fun b h => .inl h, fun b h => ⟨h, rfl⟩, fun id _ => ⟨.inr ⟨rfl, rfl, fun b o _ => .inr rfl⟩⟩, fun id h h1 _ => h1⟩
  · simp [sat] at hs
end
end Go.Ev
