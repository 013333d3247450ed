/- A part of the proof. -/
import Derived.Test.YtdlcimoofbhfaaaGreatEvT4
set_option linter.all false
set_option linter.constructorNameAsVariable false
set_option linter.unusedVariables false
set_option linter.unusedSimpArgs false
namespace Go.Ev
structure InvF (P : Program) (H : Hp) (V : Nat → D) (A : Nat → Prop) (a : Act) (w : World) (Q : QM) (Im : IM) : Prop where
  wr : WR P H Q Im w
  val : ∀ t, DR P w Im H.kd Q (V t) (a.eval (.tmp t))
  ob : ∀ id h, H id = some h → A id ∧ ∀ i ∈ obIds h.ob, A i
  vb : ∀ t, ∀ i ∈ idsD (V t), A i
section
variable {P : Program} {c : Ctx} {w w' w0 : World} {Q Q' Q0 : QM} {Im Im' Im0 : IM} {H H' : Hp} {V : Nat → D} {A A' : Nat → Prop} {a : Act}
theorem InvF.step {nid : Nat} {x : D × Dl} {u : Value} {dst : Option Nat} (h : InvF P H V A a w Q Im) (hp : Post P H Q Im w nid x u w') (hA : ∀ i, A i → ¬ (nid ≤ i ∧ i < nid + 8)) (hAA : ∀ i, A i → A' i)
    (hx1 : ∀ i ∈ idsD x.1, A' i) (hx2 : ∀ p ∈ x.2.put, A' p.1 ∧ ∀ i ∈ obIds p.2, A' i) (hd : ∀ d, dst = some d → d < a.tmps.size) {B : Nat} (hB : B ≤ nid) :
    ∃ Q' Im', InvF P (fun i => appAt x.2 i (H i)) (fun t => if dst = some t then nrm x.1 else V t) A' (a.put dst u) w' Q' Im' ∧ Since B H Q Im w (fun i => appAt x.2 i (H i)) Q' Im' w' := by
  obtain ⟨Q', Im', hw, ht, hdr⟩ := hp
  have hfa : (fun i => appAt x.2 i (H i)) = Hp.app H x.2 := by
    funext i
    simp only [appAt, Hp.app]
    cases e : look x.2.put i with
    | none => rfl
    | some o =>
      dsimp only
      congr 2
      split
      · rfl
      · cases e2 : H i with
        | none => rfl
        | some h' => exact ht.rof i h' (by simp only [Dl.ids, List.mem_append]; exact .inr (by have := look_mem e; simpa [keys] using this)) e2
  rw [hfa]
  have hold : ∀ t, DR P w' Im' (Hp.kd (Hp.app H x.2)) Q' (V t) (a.eval (.tmp t)) := fun t =>
    DR_mono ht.imm _ _ (fun i hi => ht.refs i (hA i (h.vb t i hi))) (h.val t)
  refine ⟨Q', Im', ⟨hw, ?_, ?_, ?_⟩, ht.since hB⟩
  · intro t
    cases dst with
    | none => simp only [reduceCtorEq, if_false]; exact hold t
    | some d =>
      rw [eval_put (hd d rfl)]
      simp only [Option.some.injEq]
      by_cases e : d = t
      · subst e; rw [if_pos rfl, if_pos rfl]; exact nrm_DR.2 hdr
      · rw [if_neg e, if_neg (fun h => e h.symm)]; exact hold t
  · intro id h' hf
    simp only [Hp.app] at hf
    split at hf
    · rename_i ob hl
      cases hf
      exact hx2 (id, ob) (mem_of_look hl)
    · split at hf
      · cases hf
      · have := h.ob id h' hf
        exact ⟨hAA _ this.1, fun i hi => hAA _ (this.2 i hi)⟩
  · intro t i hi
    by_cases e : dst = some t
    · rw [if_pos e, nrm_ids] at hi; exact hx1 i hi
    · rw [if_neg e] at hi; exact hAA _ (h.vb t i hi)
theorem InvF.skip {dst : Option Nat} (h : InvF P H V A a w Q Im) (hAA : ∀ i, A i → A' i) (hd : ∀ d, dst = some d → d < a.tmps.size) : InvF P H (fun t => if dst = some t then .sk else V t) A' (a.put dst undef) w Q Im := by
  refine ⟨h.wr, ?_, fun id h' hf => ?_, ?_⟩
  · intro t
    cases dst with
    | none => simp only [reduceCtorEq, if_false]; exact h.val t
    | some d =>
      rw [eval_put (hd d rfl)]
      simp only [Option.some.injEq]
      by_cases e : d = t
      · subst e; rw [if_pos rfl, if_pos rfl]; simp only [DR]
      · rw [if_neg e, if_neg (fun h => e h.symm)]; exact h.val t
  · have := h.ob id h' hf
    exact ⟨hAA _ this.1, fun i hi => hAA _ (this.2 i hi)⟩
  · intro t i hi
    by_cases e : dst = some t
    · rw [if_pos e] at hi; cases hi
    · rw [if_neg e] at hi; exact hAA _ (h.vb t i hi)
end
section
variable {R : Nat → Rec} {V0 : Nat → D} {H0 : Hp}
theorem VS_lt {t k : Nat} : ∀ {n : Nat}, k ≤ n → VS R V0 (fun i => decide (i < k)) t n = VS R V0 (fun _ => true) t k
  | 0, h => by have : k = 0 := by omega
               subst this; rfl
  | n + 1, h => by
    by_cases e : k = n + 1
    · subst e; exact VS_congr fun i hi _ => by simpa using hi
    · have ih := VS_lt (t := t) (k := k) (n := n) (by omega)
      simp only [VS]
      rw [if_neg (by simp; omega)]
      exact ih
theorem HS_lt {id k : Nat} : ∀ {n : Nat}, k ≤ n → HS R H0 (fun i => decide (i < k)) id n = HS R H0 (fun _ => true) id k
  | 0, h => by have : k = 0 := by omega
               subst this; rfl
  | n + 1, h => by
    by_cases e : k = n + 1
    · subst e; exact HS_congr fun i hi _ => by simpa using hi
    · have ih := HS_lt (id := id) (k := k) (n := n) (by omega)
      simp only [HS]
      rw [if_neg (by simp; omega)]
      exact ih
theorem find_only : ∀ (hp : Heap) (ids : List Nat) (i : Nat) (h : HO), (hp.only ids).find i = some h → i ∈ ids ∧ hp.find i = some h
  | [], ids, i, h, hf => by simp [Heap.only, Heap.find] at hf
  | x :: r, ids, i, h, hf => by
    have ih := find_only r ids i h
    simp only [Heap.only] at ih hf
    rw [List.filter_cons] at hf
    simp only [Heap.find]
    split at hf
    · rename_i hx
      simp only [Heap.find] at hf
      split at hf
      · rename_i e
        subst e
        rw [if_pos rfl]
        exact ⟨by simpa using hx, hf⟩
      · rename_i e
        rw [if_neg e]
        exact ih hf
    · rename_i hx
      obtain ⟨g1, g2⟩ := ih hf
      refine ⟨g1, ?_⟩
      rw [if_neg]
      · exact g2
      · rintro rfl
        exact hx (by simpa using g1)
end
structure Facts (P : Program) (c : Ctx) (ops : Array Oper) (R : Nat → Rec) (V0 : Nat → D) (H0 : Hp) (B : Nat) : Prop where
  hc : CtxOk P c
  dr : drawOk ops (befs ops.toList []) = true
  st : ∀ k, k < ops.size → St R V0 H0 k (R k).σ ∧ Good c ops (befs ops.toList []) B k (R k) ∧ ops[k]? = some (R k).o
  ap : ∀ k k', k < k' → k' < ops.size → (R k).x ≠ none → (R k').x ≠ none → Apart2 (befs ops.toList []) k k' (R k) (R k')
def AS (B : Nat) (S : Nat → Bool) (id : Nat) : Prop := id < B ∨ ∃ i, S i = true ∧ B + 8 * i ≤ id ∧ id < B + 8 * i + 8
section
variable {P : Program} {c : Ctx} {ops : Array Oper} {R : Nat → Rec} {V0 : Nat → D} {H0 : Hp} {B : Nat} {S : Nat → Bool} {j : Nat}
def Closed (ops : Array Oper) (S : Nat → Bool) : Prop := ∀ (k : Nat) o, ops[k]? = some o → S k = true → ∀ e ∈ o.after.toList, Region.binds .any e = true → S e.on = true
theorem Facts.before (F : Facts P c ops R V0 H0 B) (hS : Closed ops S) (hj : S j = true ∨ ∃ o, ops[j]? = some o ∧ ∀ e ∈ o.after.toList, Region.binds .any e = true → S e.on = true) :
    ∀ i, ((befs ops.toList []).getD j 0).testBit i = true → S i = true := by
  have hdr := F.dr
  simp only [drawOk, Bool.and_eq_true] at hdr
  refine befs_sub ops.toList [] (fun m hm => by simp at hm) (fun k o ho hSk => hS k o (by simpa using ho) (by simpa using hSk)) (fun k o ho e he hb => by
    have := backL_ok ops.toList 0 hdr.1 k o ho e he hb
    simpa using this) j ?_
  rcases hj with hj | ⟨o, ho, h⟩
  · exact .inl hj
  · exact .inr ⟨o, by simpa using ho, by simp, h⟩
structure Ready (ops : Array Oper) (R : Nat → Rec) (S : Nat → Bool) (j : Nat) : Prop where
  cl : Closed ops S
  lt : j < ops.size
  no : S j = false
  aft : ∀ e ∈ (R j).o.after.toList, Region.binds .any e = true → S e.on = true
theorem Facts.bj (F : Facts P c ops R V0 H0 B) (h : Ready ops R S j) : ∀ i, ((befs ops.toList []).getD j 0).testBit i = true → S i = true :=
  F.before h.cl (.inr ⟨_, (F.st j h.lt).2.2, h.aft⟩)
theorem Facts.bi (F : Facts P c ops R V0 H0 B) (h : Ready ops R S j) {i : Nat} (hi : S i = true) : ((befs ops.toList []).getD i 0).testBit j = false := by
  cases e : ((befs ops.toList []).getD i 0).testBit j with
  | false => rfl
  | true => have := F.before h.cl (.inl hi) j e; rw [h.no] at this; cases this
theorem Facts.apart (F : Facts P c ops R V0 H0 B) {i k : Nat} (hik : i < k) (hk : k < ops.size) : ((befs ops.toList []).getD k 0).testBit i = true ∨ Oper.apart ops (R i).o (R k).o = true := by
  have hdr := F.dr
  simp only [drawOk, Bool.and_eq_true] at hdr
  have := apartL_ok ops.toList 0 hdr.2 k (R k).o (by have := (F.st k hk).2.2; simpa using this) i (R i).o ((F.st i (by omega)).2.2) (by omega)
  simpa using this
theorem Facts.val (F : Facts P c ops R V0 H0 B) (h : Ready ops R S j) {t : Nat} (ht : t ∈ (R j).o.looksAt ops) : VS R V0 S t ops.size = nrm ((R j).σ.get t) := by
  rw [(F.st j h.lt).1.get, ← VS_lt (R := R) (V0 := V0) (t := t) (n := ops.size) (Nat.le_of_lt h.lt)]
  refine VS_congr fun i hi hd => ?_
  rcases Nat.lt_trichotomy i j with hij | hij | hij
  · rcases F.apart hij h.lt with h1 | h1
    · rw [F.bj h i h1]; simp [hij]
    · exact absurd ht ((Oper.apart_spec h1).1 t hd)
  · subst hij; rw [h.no]; simp
  · cases e : S i with
    | false => simp; omega
    | true =>
      rcases F.apart hij hi with h1 | h1
      · rw [F.bi h e] at h1; cases h1
      · exact absurd ht ((Oper.apart_spec h1).2.2 t hd)
theorem disj {x y : List Nat} (h : disjoint x y = true) {i : Nat} (hx : i ∈ x) : i ∉ y := by
  have := List.all_eq_true.1 h i hx
  simpa using this
theorem Facts.obj (F : Facts P c ops R V0 H0 B) (h : Ready ops R S j) (hx : (R j).x ≠ none) {id : Nat} (hid : id ∈ (R j).ft) : HS R H0 S id ops.size = (R j).σ.hp.find id := by
  rw [(F.st j h.lt).1.hp, ← HS_lt (R := R) (H0 := H0) (id := id) (n := ops.size) (Nat.le_of_lt h.lt)]
  refine HS_congr fun i hi hd => ?_
  have hxi : (R i).x ≠ none := by
    intro e
    simp [Rec.δ, e, Dl.ids] at hd
  rcases Nat.lt_trichotomy i j with hij | hij | hij
  · rcases F.ap i j hij h.lt hxi hx with h1 | h1
    · rw [F.bj h i h1]; simp [hij]
    · exact absurd (List.mem_append_left _ hid) (disj h1.2 hd)
  · subst hij; rw [h.no]; simp
  · cases e : S i with
    | false => simp; omega
    | true =>
      rcases F.ap j i hij hi hx hxi with h1 | h1
      · rw [F.bi h e] at h1; cases h1
      · exact absurd (List.mem_append_left _ hid) (disj h1.1 hd)
theorem Facts.plusV (F : Facts P c ops R V0 H0 B) (h : Ready ops R S j) (t : Nat) : VS R V0 (plus S j) t ops.size = if (R j).o.dst = some t then nrm (R j).d else VS R V0 S t ops.size := by
  refine VS_plus h.no h.lt fun i hij hi hS d hd => ?_
  rcases F.apart hij hi with h1 | h1
  · rw [F.bi h hS] at h1; cases h1
  · exact (Oper.apart_spec h1).2.1 d hd
theorem Facts.plusH (F : Facts P c ops R V0 H0 B) (h : Ready ops R S j) (id : Nat) : HS R H0 (plus S j) id ops.size = appAt (R j).δ id (HS R H0 S id ops.size) := by
  refine HS_plus h.no h.lt fun i hij hi hS d hd hd' => ?_
  have hxj : (R j).x ≠ none := by intro e; simp [Rec.δ, e, Dl.ids] at hd
  have hxi : (R i).x ≠ none := by intro e; simp [Rec.δ, e, Dl.ids] at hd'
  rcases F.ap j i hij hi hxj hxi with h1 | h1
  · rw [F.bi h hS] at h1; cases h1
  · exact absurd (List.mem_append_right _ hd') (disj h1.2 hd)
end
end Go.Ev
