/- A part of the proof. -/
import Derived.Test.YtdlcimoofbhfaaaGreatEvT5
set_option linter.all false
set_option linter.constructorNameAsVariable false
set_option linter.unusedVariables false
set_option linter.unusedSimpArgs false
namespace Go.Ev
def nrm : D → D
  | .bl t => .v .b t
  | d => d
theorem nrm_DR {P : Program} {w : World} {Im : IM} {K : Nat → Option Kd} {Q : QM} {d : D} {u : Value} : DR P w Im K Q (nrm d) u ↔ DR P w Im K Q d u := by
  cases d <;> simp only [nrm, DR, VR]
theorem nrm_ids (d : D) : idsD (nrm d) = idsD d := by cases d <;> simp only [nrm, idsD]
structure Rec where
  o : Oper
  σ : LSt
  x : Option (D × Dl)
def Rec.d (r : Rec) : D := match r.x with | some x => x.1 | none => .sk
def Rec.δ (r : Rec) : Dl := match r.x with | some x => x.2 | none => {}
def Rec.ft (r : Rec) : List Nat := footOp r.o.op r.σ.hp (r.o.op.operands.toList.map r.σ.val)
def VS (R : Nat → Rec) (V0 : Nat → D) (S : Nat → Bool) (t : Nat) : Nat → D
  | 0 => V0 t
  | n + 1 => if S n = true ∧ (R n).o.dst = some t then nrm (R n).d else VS R V0 S t n
def appAt (δ : Dl) (id : Nat) (h : Option HO) : Option HO :=
  match look δ.put id with
  | some ob => some ⟨id, (if id ∈ δ.del then false else match h with | some h => h.ro | none => false), ob⟩
  | none => if id ∈ δ.del then none else h
def HS (R : Nat → Rec) (H0 : Hp) (S : Nat → Bool) (id : Nat) : Nat → Option HO
  | 0 => H0 id
  | n + 1 => if S n = true then appAt (R n).δ id (HS R H0 S id n) else HS R H0 S id n
theorem find_puts' : ∀ (l : List (Nat × Ob)) (hp : Heap) (i : Nat), (hp.puts l).find i = match look l i with | some o => some ⟨i, (match hp.find i with | some h => h.ro | none => false), o⟩ | none => hp.find i
  | [], hp, i => by simp [Heap.puts, look]
  | (n, o) :: r, hp, i => by
    have ih := fun i => find_puts' r hp i
    simp only [Heap.puts, look]
    rw [find_put]
    by_cases e : i = n
    · subst e
      rw [if_pos rfl, if_pos rfl, ih i]
      cases e2 : look r i with
      | some o' => rfl
      | none => rfl
    · rw [if_neg e, if_neg (fun h' => e h'.symm), ih i]
theorem find_appAt (hp : Heap) (δ : Dl) (i : Nat) : (hp.app δ).find i = appAt δ i (hp.find i) := by
  simp only [Heap.app, find_puts', find_dels, appAt]
  cases look δ.put i with
  | none => rfl
  | some o =>
    by_cases h : i ∈ δ.del <;> simp [h]
theorem appAt_none {id : Nat} {h : Option HO} : appAt {} id h = h := by simp [appAt, look]
theorem appAt_out {δ : Dl} {id : Nat} {h : Option HO} (hn : id ∉ δ.ids) : appAt δ id h = h := by
  simp only [Dl.ids, List.mem_append, not_or] at hn
  have : look δ.put id = none := (look_none _ _).2 (by simpa [keys] using hn.2)
  simp only [appAt, this, if_neg hn.1]
section
variable {R : Nat → Rec} {V0 : Nat → D} {H0 : Hp} {S S' : Nat → Bool}
theorem VS_congr {t : Nat} : ∀ {n : Nat}, (∀ i, i < n → (R i).o.dst = some t → S i = S' i) → VS R V0 S t n = VS R V0 S' t n
  | 0, h => rfl
  | n + 1, h => by
    have ih := VS_congr (n := n) fun i hi => h i (by omega)
    simp only [VS, ih]
    by_cases e : (R n).o.dst = some t
    · rw [h n (by omega) e]
    · simp [e]
theorem HS_congr {id : Nat} : ∀ {n : Nat}, (∀ i, i < n → id ∈ (R i).δ.ids → S i = S' i) → HS R H0 S id n = HS R H0 S' id n
  | 0, h => rfl
  | n + 1, h => by
    have ih := HS_congr (n := n) fun i hi => h i (by omega)
    simp only [HS, ih]
    by_cases e : id ∈ (R n).δ.ids
    · rw [h n (by omega) e]
    · rw [appAt_out e]; simp
def plus (S : Nat → Bool) (j : Nat) : Nat → Bool := fun i => i == j || S i
theorem plus_ne {j i : Nat} (h : i ≠ j) : plus S j i = S i := by simp [plus, h]
theorem plus_self {j : Nat} : plus S j j = true := by simp [plus]
theorem VS_plus {j t : Nat} (hS : S j = false) : ∀ {n : Nat}, j < n → (∀ i, j < i → i < n → S i = true → ∀ d, (R j).o.dst = some d → (R i).o.dst ≠ some d) → VS R V0 (plus S j) t n = if (R j).o.dst = some t then nrm (R j).d else VS R V0 S t n
  | 0, h, _ => by omega
  | n + 1, h, hd => by
    by_cases e : n = j
    · subst e
      simp only [VS, plus_self, true_and]
      have := VS_congr (R := R) (V0 := V0) (S := plus S n) (S' := S) (t := t) (n := n) fun i hi _ => plus_ne (by omega)
      rw [this]
      simp [hS]
    · have ih := VS_plus (t := t) hS (n := n) (by omega) fun i h1 h2 => hd i h1 (by omega)
      simp only [VS, plus_ne e, ih]
      by_cases e1 : S n = true ∧ (R n).o.dst = some t
      · rw [if_pos e1, if_neg, if_pos e1]
        intro e2
        exact hd n (by omega) (by omega) e1.1 t e2 e1.2
      · rw [if_neg e1, if_neg e1]
theorem HS_plus {j id : Nat} (hS : S j = false) : ∀ {n : Nat}, j < n → (∀ i, j < i → i < n → S i = true → ∀ d, d ∈ (R j).δ.ids → d ∉ (R i).δ.ids) → HS R H0 (plus S j) id n = appAt (R j).δ id (HS R H0 S id n)
  | 0, h, _ => by omega
  | n + 1, h, hd => by
    by_cases e : n = j
    · subst e
      simp only [HS, plus_self, if_true, hS]
      rw [HS_congr (R := R) (H0 := H0) (S := plus S n) (S' := S) fun i hi _ => plus_ne (by omega)]
      simp
    · have ih := HS_plus (id := id) hS (n := n) (by omega) fun i h1 h2 => hd i h1 (by omega)
      simp only [HS, plus_ne e, ih]
      by_cases e1 : S n = true
      · rw [if_pos e1, if_pos e1]
        by_cases e2 : id ∈ (R j).δ.ids
        · rw [appAt_out (δ := (R n).δ) (hd n (by omega) (by omega) e1 id e2), appAt_out (δ := (R n).δ) (hd n (by omega) (by omega) e1 id e2)]
        · rw [appAt_out (δ := (R j).δ) e2, appAt_out (δ := (R j).δ) e2]
      · rw [if_neg e1, if_neg e1]
end
abbrev Acc := List (Nat × List Nat × List Nat)
structure Ref (σ σ1 : LSt) : Prop where
  hp : σ1.hp = σ.hp
  nx : σ1.nx = σ.nx
  get : ∀ t, nrm (σ1.get t) = nrm (σ.get t)
def GoOk (ops : Array Oper) (o : Oper) (σ : LSt) : Prop := o.guard = none ∨ ∃ j want t, o.guard = some (j, want) ∧ guardDst ops j = some t ∧ nrm (σ.get t) = .v .b want
def NoOk (ops : Array Oper) (o : Oper) (σ : LSt) : Prop := ∃ j want t, o.guard = some (j, want) ∧ guardDst ops j = some t ∧ (σ.get t = .sk ∨ nrm (σ.get t) = .v .b (!want))
section
variable (c : Ctx) (ops : Array Oper) (b : List Nat)
inductive Run : List Oper → Nat → LSt → Acc → List Rec → LSt → Acc → Prop
  | nil {n : Nat} {σ : LSt} {acc : Acc} : Run [] n σ acc [] σ acc
  | no {o : Oper} {rest : List Oper} {i : Nat} {σ σ1 σf : LSt} {acc accf : Acc} {rs : List Rec} : Ref σ σ1 → NoOk ops o σ1 → Run rest (i + 1) (skLoc σ1 o.dst) acc rs σf accf → Run (o :: rest) i σ acc (⟨o, σ1, none⟩ :: rs) σf accf
  | go {o : Oper} {rest : List Oper} {i : Nat} {σ σ1 σf : LSt} {acc accf : Acc} {rs : List Rec} {x : D × Dl} : Ref σ σ1 → GoOk ops o σ1 → Reach c.okp (evOpD c σ1 (σ1.nx + 8 * i) o.op) x → idsOkD σ1.nx i (b.getD i 0) x = true →
      Run rest (i + 1) (putLoc σ1 o.dst x.1 x.2) ((i, footOp o.op σ1.hp (o.op.operands.toList.map σ1.val), x.2.ids) :: acc) rs σf accf → Run (o :: rest) i σ acc (⟨o, σ1, some x⟩ :: rs) σf accf
end
theorem Ref.refl {σ : LSt} : Ref σ σ := ⟨rfl, rfl, fun _ => rfl⟩
theorem get_setLoc (σ : LSt) (n : Nat) (v : D) (s : Nat) : (setLoc σ n v).get s = if s = n then v else σ.get s := by
  simp only [setLoc, LSt.get, look]
  by_cases h : n = s
  · subst h; simp
  · rw [if_neg h, if_neg (fun h' => h h'.symm)]
theorem Ref.set {σ : LSt} {t : Nat} {x : Bool} (h : σ.get t = .v .b x) : Ref σ (setLoc σ t (.bl x)) := by
  refine ⟨rfl, rfl, fun s => ?_⟩
  rw [get_setLoc]
  by_cases e : s = t
  · subst e; rw [if_pos rfl, h]; rfl
  · rw [if_neg e]
section
variable {P : Program} {c : Ctx} {ops : Array Oper} {b : List Nat} {X : Type} {Kc : LSt → Tr X} {As : Again} {Qf : X → Prop}
theorem run_of_sat : ∀ (l : List Oper) (i : Nat) (σ : LSt) (acc : Acc), sat c.okp (evOpsD c ops b l i σ acc Kc) As Qf →
    ∃ rs σf accf, Run c ops b l i σ acc rs σf accf ∧ rs.length = l.length ∧ indep b accf = true ∧ sat c.okp (Kc (finSt c (i + l.length) σf)) As Qf
  | [], i, σ, acc, h => by
    simp only [evOpsD] at h
    split at h
    · rename_i h1; exact ⟨[], σ, acc, .nil, rfl, h1, h⟩
    · simp [sat] at h
  | o :: rest, i, σ, acc, h => by
    have go : ∀ σ1, Ref σ σ1 → GoOk ops o σ1 → sat c.okp ((evOpD c σ1 (σ1.nx + 8 * i) o.op).bind fun x =>
      if idsOkD σ1.nx i (b.getD i 0) x then evOpsD c ops b rest (i + 1) (putLoc σ1 o.dst x.1 x.2) ((i, footOp o.op σ1.hp (o.op.operands.toList.map σ1.val), x.2.ids) :: acc) Kc else .fail) As Qf →
      ∃ rs σf accf, Run c ops b (o :: rest) i σ acc rs σf accf ∧ rs.length = (o :: rest).length ∧ indep b accf = true ∧ sat c.okp (Kc (finSt c (i + (o :: rest).length) σf)) As Qf := by
      intro σ1 h1 h2 h3
      obtain ⟨x, hr, h4⟩ := sat_bind c.okp _ _ h3
      split at h4
      · rename_i h5
        obtain ⟨rs, σf, accf, g1, g2, g3, g4⟩ := run_of_sat rest _ _ _ h4
        exact ⟨_, σf, accf, .go h1 h2 hr h5 g1, by simp [g2], g3, by rw [List.length_cons, Nat.add_comm rest.length 1, ← Nat.add_assoc]; exact g4⟩
      · simp [sat] at h4
    have no : ∀ σ1, Ref σ σ1 → NoOk ops o σ1 → sat c.okp (evOpsD c ops b rest (i + 1) (skLoc σ1 o.dst) acc Kc) As Qf →
      ∃ rs σf accf, Run c ops b (o :: rest) i σ acc rs σf accf ∧ rs.length = (o :: rest).length ∧ indep b accf = true ∧ sat c.okp (Kc (finSt c (i + (o :: rest).length) σf)) As Qf := by
      intro σ1 h1 h2 h3
      obtain ⟨rs, σf, accf, g1, g2, g3, g4⟩ := run_of_sat rest _ _ _ h3
      exact ⟨_, σf, accf, .no h1 h2 g1, by simp [g2], g3, by rw [List.length_cons, Nat.add_comm rest.length 1, ← Nat.add_assoc]; exact g4⟩
    simp only [evOpsD] at h
    split at h
    · rename_i hg; exact go σ .refl (.inl hg) h
    · rename_i j want hg
      split at h
      · simp [sat] at h
      · rename_i t ht
        split at h
        · rename_i e; exact no σ .refl ⟨j, want, t, hg, ht, .inl e⟩ h
        · rename_i x e
          split at h
          · rename_i hx; subst hx; exact go σ .refl (.inr ⟨j, _, t, hg, ht, by rw [e]; rfl⟩) h
          · rename_i hx; exact no σ .refl ⟨j, want, t, hg, ht, .inr (by rw [e]; simp only [nrm]; congr 1; cases x <;> cases want <;> simp_all)⟩ h
        · rename_i x e
          simp only [sat] at h
          cases x with
          | true =>
            have h1 := h.1 rfl
            have hr := Ref.set e
            split at h1
            · rename_i hw; subst hw; exact go _ hr (.inr ⟨j, _, t, hg, ht, by rw [get_setLoc]; simp [nrm]⟩) h1
            · rename_i hw; exact no _ hr ⟨j, want, t, hg, ht, .inr (by rw [get_setLoc]; cases want <;> simp_all [nrm])⟩ h1
          | false =>
            have h1 := h.2 rfl
            have hr := Ref.set e
            split at h1
            · rename_i hw; subst hw; exact no _ hr ⟨j, _, t, hg, ht, .inr (by rw [get_setLoc]; simp [nrm])⟩ h1
            · rename_i hw; exact go _ hr (.inr ⟨j, want, t, hg, ht, by rw [get_setLoc]; cases want <;> simp_all [nrm]⟩) h1
        · simp [sat] at h
end
structure St (R : Nat → Rec) (V0 : Nat → D) (H0 : Hp) (n : Nat) (σ : LSt) : Prop where
  get : ∀ t, nrm (σ.get t) = VS R V0 (fun _ => true) t n
  hp : ∀ id, σ.hp.find id = HS R H0 (fun _ => true) id n
structure Good (c : Ctx) (ops : Array Oper) (b : List Nat) (B i : Nat) (r : Rec) : Prop where
  nx : r.σ.nx = B
  no : r.x = none → NoOk ops r.o r.σ
  go : ∀ x, r.x = some x → GoOk ops r.o r.σ ∧ Reach c.okp (evOpD c r.σ (B + 8 * i) r.o.op) x ∧ idsOkD B i (b.getD i 0) x = true
def Apart2 (b : List Nat) (i j : Nat) (r r' : Rec) : Prop := (b.getD j 0).testBit i = true ∨ (disjoint r'.δ.ids (r.ft ++ r.δ.ids) = true ∧ disjoint r.δ.ids (r'.ft ++ r'.δ.ids) = true)
section
variable {c : Ctx} {ops : Array Oper} {b : List Nat} {R : Nat → Rec} {V0 : Nat → D} {H0 : Hp} {B : Nat}
theorem St.ref {n : Nat} {σ σ1 : LSt} (h : St R V0 H0 n σ) (hr : Ref σ σ1) : St R V0 H0 n σ1 := ⟨fun t => by rw [hr.get, h.get], fun id => by rw [hr.hp, h.hp]⟩
theorem run_st : ∀ {l : List Oper} {i : Nat} {σ σf : LSt} {acc accf : Acc} {rs : List Rec}, Run c ops b l i σ acc rs σf accf → (∀ k r, rs[k]? = some r → R (i + k) = r) → σ.nx = B → St R V0 H0 i σ →
    (∀ k, k < rs.length → St R V0 H0 (i + k) (R (i + k)).σ ∧ Good c ops b B (i + k) (R (i + k)) ∧ l[k]? = some (R (i + k)).o) ∧ St R V0 H0 (i + rs.length) σf ∧ σf.nx = B
  | [], i, σ, σf, acc, accf, rs, h, hR, hB, hS => by
    cases h; exact ⟨fun k hk => by simp at hk, hS, hB⟩
  | o :: rest, i, σ, σf, acc, accf, _, .no (σ1 := σ1) (rs := rs) h1 h2 h3, hR, hB, hS => by
    have h0 : R i = ⟨o, σ1, none⟩ := hR 0 _ rfl
    have hS1 := hS.ref h1
    have hS2 : St R V0 H0 (i + 1) (skLoc σ1 o.dst) := by
      constructor
      · intro t
        simp only [VS, h0, true_and, Rec.d]
        cases hd : o.dst with
        | none => simp only [skLoc]; rw [if_neg (by simp)]; exact hS1.get t
        | some d =>
          simp only [skLoc, get_setLoc, Option.some.injEq]
          by_cases e : t = d
          · subst e; simp
          · rw [if_neg e, if_neg (fun h => e h.symm)]; exact hS1.get t
      · intro id
        rw [skLoc_hp]
        simp only [HS, h0, Rec.δ, if_true, appAt_none]
        exact hS1.hp id
    obtain ⟨g1, g2, g3⟩ := run_st h3 (fun k r hk => by have := hR (k + 1) r (by simpa using hk); rwa [Nat.add_comm k 1, ← Nat.add_assoc] at this) (by rw [skLoc_nx, h1.nx, hB]) hS2
    refine ⟨fun k hk => ?_, by rw [List.length_cons, Nat.add_comm rs.length 1, ← Nat.add_assoc]; exact g2, g3⟩
    cases k with
    | zero => rw [Nat.add_zero, h0]; exact ⟨hS1, ⟨by rw [h1.nx, hB], fun _ => h2, fun x hx => by cases hx⟩, rfl⟩
    | succ k =>
      have := g1 k (by simpa using hk)
      rw [Nat.add_comm k 1, ← Nat.add_assoc]
      exact ⟨this.1, this.2.1, by rw [Nat.add_comm 1 k]; simpa using this.2.2⟩
  | o :: rest, i, σ, σf, acc, accf, _, .go (σ1 := σ1) (rs := rs) (x := x) h1 h2 hr hi h3, hR, hB, hS => by
    have h0 : R i = ⟨o, σ1, some x⟩ := hR 0 _ rfl
    have hS1 := hS.ref h1
    have hS2 : St R V0 H0 (i + 1) (putLoc σ1 o.dst x.1 x.2) := by
      constructor
      · intro t
        simp only [VS, h0, true_and, Rec.d]
        cases hd : o.dst with
        | none => simp only [putLoc]; rw [if_neg (by simp)]; exact hS1.get t
        | some d =>
          rw [get_putLoc]
          simp only [Option.some.injEq]
          by_cases e : t = d
          · subst e; simp
          · rw [if_neg e, if_neg (fun h => e h.symm)]; exact hS1.get t
      · intro id
        have : (putLoc σ1 o.dst x.1 x.2).hp = σ1.hp.app x.2 := by cases o.dst <;> rfl
        rw [this, find_appAt, hS1.hp id]
        simp only [HS, h0, Rec.δ, if_true]
    obtain ⟨g1, g2, g3⟩ := run_st h3 (fun k r hk => by have := hR (k + 1) r (by simpa using hk); rwa [Nat.add_comm k 1, ← Nat.add_assoc] at this) (by rw [putLoc_nx, h1.nx, hB]) hS2
    refine ⟨fun k hk => ?_, by rw [List.length_cons, Nat.add_comm rs.length 1, ← Nat.add_assoc]; exact g2, g3⟩
    have hnx : σ1.nx = B := by rw [h1.nx, hB]
    cases k with
    | zero => rw [Nat.add_zero, h0]; exact ⟨hS1, ⟨hnx, (fun h => by cases h), fun y hy => by cases hy; rw [← hnx]; exact ⟨h2, hr, by rw [hnx] at hi ⊢; exact hi⟩⟩, rfl⟩
    | succ k =>
      have := g1 k (by simpa using hk)
      rw [Nat.add_comm k 1, ← Nat.add_assoc]
      exact ⟨this.1, this.2.1, by rw [Nat.add_comm 1 k]; simpa using this.2.2⟩
theorem run_indep : ∀ {l : List Oper} {i : Nat} {σ σf : LSt} {acc accf : Acc} {rs : List Rec}, Run c ops b l i σ acc rs σf accf → (∀ k r, rs[k]? = some r → R (i + k) = r) → indep b accf = true →
    indep b acc = true ∧ (∀ k, k < rs.length → (R (i + k)).x ≠ none → indep1 b (i + k) (R (i + k)).ft (R (i + k)).δ.ids acc = true) ∧ ∀ k k', k < k' → k' < rs.length → (R (i + k)).x ≠ none → (R (i + k')).x ≠ none → Apart2 b (i + k) (i + k') (R (i + k)) (R (i + k'))
  | [], i, σ, σf, acc, accf, rs, h, hR, hi => by
    cases h; exact ⟨hi, fun k hk => by simp at hk, fun k k' h1 h2 => by simp at h2⟩
  | o :: rest, i, σ, σf, acc, accf, _, .no (σ1 := σ1) (rs := rs) h1 h2 h3, hR, hi => by
    have h0 : R i = ⟨o, σ1, none⟩ := hR 0 _ rfl
    obtain ⟨g1, g2, g3⟩ := run_indep h3 (fun k r hk => by have := hR (k + 1) r (by simpa using hk); rwa [Nat.add_comm k 1, ← Nat.add_assoc] at this) hi
    refine ⟨g1, fun k hk hx => ?_, fun k k' hk hk' hx hx' => ?_⟩
    · cases k with
      | zero => rw [Nat.add_zero, h0] at hx; exact absurd rfl hx
      | succ k => rw [Nat.add_comm k 1, ← Nat.add_assoc] at hx ⊢; exact g2 k (by simpa using hk) hx
    · cases k with
      | zero => rw [Nat.add_zero, h0] at hx; exact absurd rfl hx
      | succ k =>
        cases k' with
        | zero => omega
        | succ k' =>
          rw [Nat.add_comm k 1, ← Nat.add_assoc] at hx ⊢
          rw [Nat.add_comm k' 1, ← Nat.add_assoc] at hx' ⊢
          exact g3 k k' (by omega) (by simpa using hk') hx hx'
  | o :: rest, i, σ, σf, acc, accf, _, .go (σ1 := σ1) (rs := rs) (x := x) h1 h2 hr hid h3, hR, hi => by
    have h0 : R i = ⟨o, σ1, some x⟩ := hR 0 _ rfl
    obtain ⟨g1, g2, g3⟩ := run_indep h3 (fun k r hk => by have := hR (k + 1) r (by simpa using hk); rwa [Nat.add_comm k 1, ← Nat.add_assoc] at this) hi
    simp only [indep, Bool.and_eq_true] at g1
    simp only [indep1, Bool.and_eq_true, Bool.or_eq_true] at g2
    refine ⟨g1.2, fun k hk hx => ?_, fun k k' hk hk' hx hx' => ?_⟩
    · cases k with
      | zero => rw [Nat.add_zero, h0]; exact g1.1
      | succ k => rw [Nat.add_comm k 1, ← Nat.add_assoc] at hx ⊢; exact (g2 k (by simpa using hk) hx).2
    · cases k' with
      | zero => omega
      | succ k' =>
        cases k with
        | zero =>
          rw [Nat.add_comm k' 1, ← Nat.add_assoc] at hx' ⊢
          have := (g2 k' (by simpa using hk') hx').1
          rw [Nat.add_zero, h0]
          exact this
        | succ k =>
          rw [Nat.add_comm k 1, ← Nat.add_assoc] at hx ⊢
          rw [Nat.add_comm k' 1, ← Nat.add_assoc] at hx' ⊢
          exact g3 k k' (by omega) (by simpa using hk') hx hx'
end
theorem testBit_or_pow {s n m i : Nat} (h : (s ||| 2 ^ n ||| m).testBit i = true) : s.testBit i = true ∨ i = n ∨ m.testBit i = true := by
  simp only [Nat.testBit_or, Nat.testBit_two_pow, Bool.or_eq_true, decide_eq_true_eq] at h
  rcases h with (h | h) | h
  · exact .inl h
  · exact .inr (.inl h.symm)
  · exact .inr (.inr h)
theorem befOf_sub {S : Nat → Bool} {acc : List Nat} (hacc : ∀ m, S m = true → ∀ i, (acc.getD m 0).testBit i = true → S i = true) :
    ∀ (es : List Edge) (s : Nat), (∀ e ∈ es, Region.binds .any e = true → S e.on = true) → (∀ i, s.testBit i = true → S i = true) → ∀ i, (befOf acc es s).testBit i = true → S i = true
  | [], s, he, hs, i, h => hs i h
  | e :: r, s, he, hs, i, h => by
    simp only [befOf] at h
    refine befOf_sub hacc r _ (fun e' he' => he e' (by simp [he'])) ?_ i h
    intro k hk
    split at hk
    · rename_i hb
      have h1 := he e (by simp) hb
      rcases testBit_or_pow hk with h2 | h2 | h2
      · exact hs k h2
      · subst h2; exact h1
      · exact hacc _ h1 k h2
    · exact hs k hk
theorem befs_sub {S : Nat → Bool} : ∀ (l : List Oper) (acc : List Nat), (∀ m, m < acc.length → S m = true → ∀ i, (acc.getD m 0).testBit i = true → S i = true) →
    (∀ (k : Nat) o, l[k]? = some o → S (acc.length + k) = true → ∀ e ∈ o.after.toList, Region.binds .any e = true → S e.on = true) → (∀ (k : Nat) o, l[k]? = some o → ∀ e ∈ o.after.toList, Region.binds .any e = true → e.on < acc.length + k) →
    ∀ j, (S j = true ∨ ∃ o, l[j - acc.length]? = some o ∧ acc.length ≤ j ∧ ∀ e ∈ o.after.toList, Region.binds .any e = true → S e.on = true) → ∀ i, ((befs l acc).getD j 0).testBit i = true → S i = true
  | [], acc, ha, hl, hb, j, hj, i, h => by
    simp only [befs] at h
    rcases hj with hj | ⟨o, ho, _⟩
    · by_cases hlt : j < acc.length
      · exact ha j hlt hj i h
      · rw [List.getD_eq_getElem?_getD, List.getElem?_eq_none (by omega)] at h; simp at h
    · simp at ho
  | o :: r, acc, ha, hl, hb, j, hj, i, h => by
    simp only [befs] at h
    have hacc : ∀ m, S m = true → ∀ i, (acc.getD m 0).testBit i = true → S i = true := by
      intro m hm i hi
      by_cases hlt : m < acc.length
      · exact ha m hlt hm i hi
      · rw [List.getD_eq_getElem?_getD, List.getElem?_eq_none (by omega)] at hi; simp at hi
    have key : (∀ e ∈ o.after.toList, Region.binds .any e = true → S e.on = true) → ∀ i, (befOf acc o.after.toList 0).testBit i = true → S i = true :=
      fun he => befOf_sub hacc o.after.toList 0 he (fun i hi => by simp at hi)
    by_cases hjl : j = acc.length
    · subst hjl
      have he : ∀ e ∈ o.after.toList, Region.binds .any e = true → S e.on = true := by
        rcases hj with hj | ⟨o', ho, _, h2⟩
        · exact hl 0 o rfl (by simpa using hj)
        · simp at ho; subst ho; exact h2
      have : ∀ (l : List Oper) (acc : List Nat) (m : Nat), m < acc.length → (befs l acc).getD m 0 = acc.getD m 0 := by
        intro l
        induction l with
        | nil => intro acc m hm; rfl
        | cons o' r' ih =>
          intro acc m hm
          simp only [befs]
          rw [ih _ m (by simp; omega)]
          simp only [List.getD_eq_getElem?_getD, List.getElem?_append_left hm]
      rw [this r _ acc.length (by simp)] at h
      rw [List.getD_eq_getElem?_getD, List.getElem?_append_right (Nat.le_refl _)] at h
      simp at h
      exact key he i h
    · refine befs_sub r (acc ++ [befOf acc o.after.toList 0]) ?_ ?_ ?_ j ?_ i h
      · intro m hm hSm i hi
        simp at hm
        by_cases hlt : m < acc.length
        · rw [List.getD_eq_getElem?_getD, List.getElem?_append_left hlt, ← List.getD_eq_getElem?_getD] at hi
          exact ha m hlt hSm i hi
        · have : m = acc.length := by omega
          subst this
          rw [List.getD_eq_getElem?_getD, List.getElem?_append_right (Nat.le_refl _)] at hi
          simp at hi
          exact key (hl 0 o rfl (by simpa using hSm)) i hi
      · intro k o' ho' hS
        refine hl (k + 1) o' (by simpa using ho') ?_
        simp at hS
        rw [← hS]; congr 1; omega
      · intro k o' ho' e he hbi
        have := hb (k + 1) o' (by simpa using ho') e he hbi
        simp; omega
      · rcases hj with hj | ⟨o', ho, h1, h2⟩
        · exact .inl hj
        · refine .inr ⟨o', ?_, by simp; omega, h2⟩
          have e1 : j - acc.length = (j - (acc.length + 1)) + 1 := by omega
          rw [e1] at ho
          simpa using ho
theorem backL_ok : ∀ (l : List Oper) (i : Nat), backL i l = true → ∀ (k : Nat) o, l[k]? = some o → ∀ e ∈ o.after.toList, Region.binds .any e = true → e.on < i + k
  | [], i, h, k, o, ho, e, he, hb => by simp at ho
  | o :: r, i, h, k, o', ho, e, he, hb => by
    simp only [backL, Bool.and_eq_true, List.all_eq_true, Bool.or_eq_true, Bool.not_eq_true', decide_eq_true_eq] at h
    cases k with
    | zero =>
      simp at ho; subst ho
      rcases h.1 e he with h1 | h1
      · rw [hb] at h1; cases h1
      · simpa using h1
    | succ k =>
      have := backL_ok r (i + 1) h.2 k o' (by simpa using ho) e he hb
      omega
theorem apartGo_ok {ops : Array Oper} {bj j : Nat} {y : Oper} : ∀ (l : List Oper) (i : Nat), apartGo ops bj j y i l = true → ∀ (k : Nat) x, l[k]? = some x → i + k < j → bj.testBit (i + k) = true ∨ Oper.apart ops x y = true
  | [], i, h, k, x, hx, hlt => by simp at hx
  | x :: r, i, h, k, x', hx, hlt => by
    simp only [apartGo, Bool.and_eq_true, Bool.or_eq_true, decide_eq_true_eq] at h
    cases k with
    | zero =>
      simp at hx; subst hx
      rcases h.1 with (h1 | h1) | h1
      · simp at hlt; omega
      · exact .inl h1
      · exact .inr h1
    | succ k =>
      have := apartGo_ok r (i + 1) h.2 k x' (by simpa using hx) (by omega)
      rwa [Nat.add_assoc, Nat.add_comm 1 k] at this
theorem apartL_ok {ops : Array Oper} {b : List Nat} : ∀ (l : List Oper) (j : Nat), apartL ops b j l = true → ∀ (k : Nat) y, l[k]? = some y → ∀ (i : Nat) x, ops[i]? = some x → i < j + k → (b.getD (j + k) 0).testBit i = true ∨ Oper.apart ops x y = true
  | [], j, h, k, y, hy, i, x, hx, hlt => by simp at hy
  | y :: r, j, h, k, y', hy, i, x, hx, hlt => by
    simp only [apartL, Bool.and_eq_true] at h
    cases k with
    | zero =>
      simp at hy; subst hy
      have := apartGo_ok ops.toList 0 h.1 i x (by simpa using hx) (by simpa using hlt)
      simpa using this
    | succ k =>
      have := apartL_ok r (j + 1) h.2 k y' (by simpa using hy) i x hx (by omega)
      rwa [Nat.add_assoc, Nat.add_comm 1 k] at this
end Go.Ev
