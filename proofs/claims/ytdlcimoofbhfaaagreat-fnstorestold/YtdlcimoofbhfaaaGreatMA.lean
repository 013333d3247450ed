/- The plain law, first part: sets of numbers, names, mails, boxes, stores. -/
import Derived.Test.YtdlcimoofbhfaaaGreatF
set_option linter.all false
namespace Go.M
open Go.Ev Go.G
theorem w64_id {x : Int} (h : -9223372036854775808 ≤ x) (h' : x ≤ 9223372036854775807) : w64 x = x := by
  unfold w64 IntKind.wrap
  simp only [IntKind.bits, IntKind.signed]
  simp
  first
    | omega
    | (split <;> omega)
theorem reqO_pos {β : Type} {p : Prop} (h : p) (o : Option β) : reqO p o = o := by unfold reqO; rw [if_pos h]
theorem idxO_nat {α β : Type} {l : List α} {n : Nat} {r : α} (h : l[n]? = some r) (k : α → Option β) : idxO l (n : Int) k = k r := by
  unfold idxO
  rw [if_pos (by omega)]
  simp only [Int.toNat_natCast, h]
theorem idxO_int {α β : Type} {l : List α} {i : Int} {r : α} (h0 : 0 ≤ i) (h : l[i.toNat]? = some r) (k : α → Option β) : idxO l i k = k r := by
  unfold idxO
  rw [if_pos h0]
  simp only [h]
section
variable {α β : Type} {pre l : List α} {r : α}
theorem idx_mid (k : α → Option β) : idxO (pre ++ r :: l) (pre.length : Int) k = k r := idxO_nat (by simp) k
theorem lt_mid : decide ((pre.length : Int) < ((pre ++ r :: l).length : Int)) = true := by
  simp; omega
theorem lt_end : decide ((pre.length : Int) < (pre.length : Int)) = false := by simp
theorem mid_assoc : pre ++ r :: l = (pre ++ [r]) ++ l := by simp
theorem next_mid (h : pre.length < 4611686018427387904) : w64 ((pre.length : Int) + 1) = ((pre ++ [r]).length : Int) := by
  rw [w64_id (by omega) (by omega)]; simp
end
theorem loop_inv {σ β : Type} {L : σ → Option β} (I : σ → Prop) (μ : σ → Nat) {Q : β → Prop} (step : ∀ st, I st → (∃ y, L st = some y ∧ Q y) ∨ ∃ st', L st = L st' ∧ I st' ∧ μ st' < μ st) : ∀ st, I st → ∃ y, L st = some y ∧ Q y := by
  have key : ∀ n st, μ st ≤ n → I st → ∃ y, L st = some y ∧ Q y := by
    intro n
    induction n with
    | zero =>
      intro st hn hI
      rcases step st hI with h | ⟨st', h1, h2, h3⟩
      · exact h
      · omega
    | succ n ih =>
      intro st hn hI
      rcases step st hI with h | ⟨st', h1, h2, h3⟩
      · exact h
      · rw [h1]; exact ih st' (by omega) h2
  exact fun st hI => key _ st (Nat.le_refl _) hI
theorem ite_true' {β : Type} (a b : Option β) : (if true = true then a else b) = a := rfl
theorem ite_false' {β : Type} (a b : Option β) : (if false = true then a else b) = b := rfl
end Go.M
namespace Go.M
open Go.Ev Go.G
theorem within_eq (n lo hi : Int) : impl_within n lo hi = some (decide (lo ≤ n ∧ n ≤ hi)) := by
  unfold impl_within
  by_cases h : lo ≤ n <;> simp [h]
theorem l01In_eq (n lo hi : Int) : spec_l01In n lo hi = some (decide (lo ≤ n ∧ n ≤ hi)) := by
  unfold spec_l01In
  by_cases h : lo ≤ n <;> simp [h]
theorem isUid_eq (n : Int) : impl_isUid n = some (decide (1 ≤ n ∧ n ≤ 9999)) := by
  unfold impl_isUid
  rw [within_eq]; rfl
def Chain : Int → List (Int × Int) → Prop
  | _, [] => True
  | b, r :: l => b < r.1 ∧ r.1 ≤ r.2 ∧ r.2 ≤ 9999 ∧ Chain (r.2 + 1) l
instance decChain : ∀ (b : Int) (l : List (Int × Int)), Decidable (Chain b l)
  | _, [] => isTrue trivial
  | b, r :: l => by
    have := decChain (r.2 + 1) l
    unfold Chain
    infer_instance
def SetOK (s : List (Int × Int)) : Prop := Chain 0 s ∧ s.length ≤ 40
instance (s : List (Int × Int)) : Decidable (SetOK s) := by unfold SetOK; infer_instance
theorem setOK_dec (s : List (Int × Int)) : decide (SetOK s) = (decide (Chain 0 s) && decide (s.length ≤ 40)) := by
  rw [Bool.eq_iff_iff, Bool.and_eq_true, decide_eq_true_eq, decide_eq_true_eq, decide_eq_true_eq]; exact Iff.rfl
theorem chain_yes {b : Int} {r : Int × Int} {l : List (Int × Int)} (h1 : b < r.1) (h2 : r.1 ≤ r.2) (h3 : r.2 ≤ 9999) : decide (Chain b (r :: l)) = decide (Chain (r.2 + 1) l) :=
  decide_eq_decide.2 ⟨fun h => h.2.2.2, fun h => ⟨h1, h2, h3, h⟩⟩
theorem chain_no {b : Int} {r : Int × Int} {l : List (Int × Int)} (h : ¬ (b < r.1 ∧ r.1 ≤ r.2 ∧ r.2 ≤ 9999)) : decide (Chain b (r :: l)) = false :=
  decide_eq_false fun h' => h ⟨h'.1, h'.2.1, h'.2.2.1⟩
theorem specSetOk_at : ∀ (l q : List (Int × Int)) (p : Int × Int), 0 ≤ p.2 → p.2 ≤ 9999 → q.length + 1 + l.length < 2147483648 →
    spec_SetOk_L1 (q ++ p :: l) ((q ++ [p]).length : Nat) = some (decide (Chain (p.2 + 1) l) && decide ((q ++ p :: l).length ≤ 40))
  | [], q, p, h0, h1, hl => by
    rw [spec_SetOk_L1_eq]
    unfold spec_SetOk_L1_B
    rw [lt_end, ite_false', show decide (Chain (p.2 + 1) []) = true from rfl, Bool.true_and]
    congr 1
    rw [decide_eq_decide]
    omega
  | r :: l, q, p, h0, h1, hl => by
    simp only [List.length_cons] at hl
    rw [spec_SetOk_L1_eq]
    unfold spec_SetOk_L1_B
    have e : q ++ p :: r :: l = (q ++ [p]) ++ r :: l := by simp
    have hn : (q ++ [p]).length = q.length + 1 := by simp
    rw [e, lt_mid, ite_true']
    simp only [idx_mid, l01In_eq, Option.bind_some]
    have hp : w64 (((q ++ [p]).length : Int) - 1) = (q.length : Int) := by
      rw [w64_id] <;> omega
    have hpos : (0 : Int) < ((q ++ [p]).length : Int) := by omega
    have h3 : w64 (p.2 + 1) = p.2 + 1 := w64_id (by omega) (by omega)
    rw [hp, ← e]
    simp only [idx_mid, h3, hpos, decide_true]
    by_cases c1 : 1 ≤ r.1 ∧ r.1 ≤ r.2
    · by_cases c2 : 9999 < r.2
      · rw [chain_no (by omega)]; simp [c1, c2]
      · by_cases c3 : r.1 ≤ p.2 + 1
        · rw [chain_no (by omega)]; simp [c1, c2, c3]
        · have ih := specSetOk_at l (q ++ [p]) r (by omega) (by omega) (by omega)
          rw [chain_yes (by omega) (by omega) (by omega), next_mid (by omega), e, ih]
          simp [c1, c2, c3]
    · rw [chain_no (by omega)]; simp [c1]
theorem specSetOk_eq {s : List (Int × Int)} (hl : s.length < 2147483648) : spec_SetOk s = some (decide (SetOK s)) := by
  rw [setOK_dec]
  unfold spec_SetOk
  cases s with
  | nil => rw [spec_SetOk_L1_eq]; rfl
  | cons r l =>
    simp only [List.length_cons] at hl
    rw [spec_SetOk_L1_eq]
    unfold spec_SetOk_L1_B
    have e1 : decide ((0 : Int) < ((r :: l).length : Int)) = true := by
      rw [decide_eq_true_eq]; simp only [List.length_cons]; omega
    have e2 : ∀ k : Int × Int → Option Bool, idxO (r :: l) 0 k = k r := fun k => idxO_nat (n := 0) rfl k
    rw [e1, ite_true']
    simp only [e2, l01In_eq, Option.bind_some]
    by_cases c1 : 1 ≤ r.1 ∧ r.1 ≤ r.2
    · by_cases c2 : 9999 < r.2
      · rw [chain_no (by omega)]; simp [c1, c2]
      · have ih := specSetOk_at l [] r (by omega) (by omega) (by simp; omega)
        have : w64 ((0 : Int) + 1) = ((([] : List (Int × Int)) ++ [r]).length : Nat) := by rw [w64_id] <;> simp
        rw [this]
        simp only [List.nil_append] at ih ⊢
        rw [chain_yes (by omega) (by omega) (by omega), ih]
        simp [c1, c2]
    · rw [chain_no (by omega)]; simp [c1]
theorem implSetOk_at : ∀ (l q : List (Int × Int)) (p : Int × Int), 0 ≤ p.2 → p.2 ≤ 9999 → q.length + 1 + l.length < 2147483648 →
    impl_SetOk_L1 (q ++ p :: l) ((q ++ [p]).length : Nat) = some (decide (Chain (p.2 + 1) l) && decide ((q ++ p :: l).length ≤ 40))
  | [], q, p, h0, h1, hl => by
    rw [impl_SetOk_L1_eq]
    unfold impl_SetOk_L1_B
    rw [lt_end, ite_false', show decide (Chain (p.2 + 1) []) = true from rfl, Bool.true_and]
    congr 1
    rw [decide_eq_decide]
    omega
  | r :: l, q, p, h0, h1, hl => by
    simp only [List.length_cons] at hl
    rw [impl_SetOk_L1_eq]
    unfold impl_SetOk_L1_B
    have e : q ++ p :: r :: l = (q ++ [p]) ++ r :: l := by simp
    have hn : (q ++ [p]).length = q.length + 1 := by simp
    rw [e, lt_mid, ite_true']
    simp only [idx_mid, isUid_eq, within_eq, Option.bind_some]
    have hp : w64 (((q ++ [p]).length : Int) - 1) = (q.length : Int) := by
      rw [w64_id] <;> omega
    have hpos : (0 : Int) < ((q ++ [p]).length : Int) := by omega
    have h3 : w64 (p.2 + 1) = p.2 + 1 := w64_id (by omega) (by omega)
    rw [hp, ← e]
    simp only [idx_mid, h3, hpos, decide_true]
    by_cases c1 : 1 ≤ r.1 ∧ r.1 ≤ 9999
    · by_cases c2 : r.1 ≤ r.2 ∧ r.2 ≤ 9999
      · by_cases c3 : r.1 ≤ p.2 + 1
        · rw [chain_no (by omega)]; simp [c1, c2, c3]
        · have ih := implSetOk_at l (q ++ [p]) r (by omega) (by omega) (by omega)
          rw [chain_yes (by omega) (by omega) (by omega), next_mid (by omega), e, ih]
          simp [c1, c2, c3]
      · rw [chain_no (by omega)]; simp [c1, c2]
    · rw [chain_no (by omega)]; simp [c1]
theorem implSetOk_eq {s : List (Int × Int)} (hl : s.length < 2147483648) : impl_SetOk s = some (decide (SetOK s)) := by
  rw [setOK_dec]
  unfold impl_SetOk
  cases s with
  | nil => rw [impl_SetOk_L1_eq]; rfl
  | cons r l =>
    simp only [List.length_cons] at hl
    rw [impl_SetOk_L1_eq]
    unfold impl_SetOk_L1_B
    have e1 : decide ((0 : Int) < ((r :: l).length : Int)) = true := by
      rw [decide_eq_true_eq]; simp only [List.length_cons]; omega
    have e2 : ∀ k : Int × Int → Option Bool, idxO (r :: l) 0 k = k r := fun k => idxO_nat (n := 0) rfl k
    rw [e1, ite_true']
    simp only [e2, isUid_eq, within_eq, Option.bind_some]
    by_cases c1 : 1 ≤ r.1 ∧ r.1 ≤ 9999
    · by_cases c2 : r.1 ≤ r.2 ∧ r.2 ≤ 9999
      · have ih := implSetOk_at l [] r (by omega) (by omega) (by simp; omega)
        have : w64 ((0 : Int) + 1) = ((([] : List (Int × Int)) ++ [r]).length : Nat) := by rw [w64_id] <;> simp
        rw [this]
        simp only [List.nil_append] at ih ⊢
        rw [chain_yes (by omega) (by omega) (by omega), ih]
        simp [c1, c2]
      · rw [chain_no (by omega)]; simp [c1, c2]
    · rw [chain_no (by omega)]; simp [c1]
def has (s : List (Int × Int)) (n : Int) : Bool := s.any fun r => decide (r.1 ≤ n ∧ n ≤ r.2)
theorem specHas_at (n : Int) : ∀ (l pre : List (Int × Int)), pre.length + l.length < 2147483648 → spec_SetHas_L1 (pre ++ l) n (pre.length : Nat) = some (has l n)
  | [], pre, h => by rw [spec_SetHas_L1_eq]; unfold spec_SetHas_L1_B; simp [has]
  | r :: l, pre, h => by
    simp only [List.length_cons] at h
    have ih := specHas_at n l (pre ++ [r]) (by simp; omega)
    rw [← mid_assoc] at ih
    rw [spec_SetHas_L1_eq]; unfold spec_SetHas_L1_B
    rw [lt_mid, ite_true']
    simp only [idx_mid]
    rw [next_mid (by omega), ih]
    by_cases c1 : r.1 ≤ n <;> by_cases c2 : n ≤ r.2 <;> simp [c1, c2, has]
theorem specHas_eq {s : List (Int × Int)} (n : Int) (h : s.length < 2147483648) : spec_SetHas s n = some (has s n) := by
  have := specHas_at n s [] (by simpa using h)
  simpa [spec_SetHas] using this
theorem implHas_at (n : Int) : ∀ (l pre : List (Int × Int)), pre.length + l.length < 2147483648 → impl_SetHas_L1 (pre ++ l) n (pre.length : Nat) = some (has l n)
  | [], pre, h => by rw [impl_SetHas_L1_eq]; unfold impl_SetHas_L1_B; simp [has]
  | r :: l, pre, h => by
    simp only [List.length_cons] at h
    have ih := implHas_at n l (pre ++ [r]) (by simp; omega)
    rw [← mid_assoc] at ih
    rw [impl_SetHas_L1_eq]; unfold impl_SetHas_L1_B
    rw [lt_mid, ite_true']
    simp only [idx_mid, within_eq, Option.bind_some]
    rw [next_mid (by omega), ih]
    by_cases c1 : r.1 ≤ n ∧ n ≤ r.2 <;> simp [c1, has]
theorem implHas_eq {s : List (Int × Int)} (n : Int) (h : s.length < 2147483648) : impl_SetHas s n = some (has s n) := by
  have := implHas_at n s [] (by simpa using h)
  simpa [impl_SetHas] using this
end Go.M
namespace Go.M
open Go.Ev Go.G
theorem modify_last {α : Type} (q : List α) (x : α) (f : α → α) : (q ++ [x]).modify q.length f = q ++ [f x] := by
  induction q with
  | nil => rfl
  | cons y r ih => simp [ih]
def ext (out : List (Int × Int)) (n : Int) (j : Bool) : List (Int × Int) :=
  if j then (match out.getLast? with | some x => out.dropLast ++ [(x.1, n)] | none => [(n, n)]) else out ++ [(n, n)]
def runs (p : Nat → Bool) : Nat → List (Int × Int)
  | 0 => []
  | n + 1 => if p (n + 1) then ext (runs p n) ((n + 1 : Nat) : Int) (p n) else runs p n
theorem runs_last {p : Nat → Bool} {n : Nat} (h0 : p 0 = false) (h : p n = true) : ∃ q lo, runs p n = q ++ [(lo, (n : Int))] := by
  cases n with
  | zero => rw [h0] at h; cases h
  | succ n =>
    simp only [runs, h, if_true, ext]
    split
    · split
      · rename_i x hx; exact ⟨_, _, rfl⟩
      · exact ⟨[], _, rfl⟩
    · exact ⟨_, _, rfl⟩
theorem has_append (a b : List (Int × Int)) (n : Int) : has (a ++ b) n = (has a n || has b n) := by simp [has]
theorem runs_spec {p : Nat → Bool} (h0 : p 0 = false) : ∀ n : Nat, (∀ r ∈ runs p n, 1 ≤ r.1 ∧ r.1 ≤ r.2 ∧ r.2 ≤ (n : Int)) ∧ (∀ m : Nat, has (runs p n) (m : Int) = (decide (m ≤ n) && p m)) ∧ (runs p n).length ≤ n
  | 0 => ⟨fun r hr => by simp [runs] at hr, fun m => by
      simp only [runs, has, List.any_nil]
      by_cases h : m = 0
      · subst h; simp [h0]
      · have : ¬ m ≤ 0 := by omega
        simp [this], by simp [runs]⟩
  | n + 1 => by
    obtain ⟨i1, i2, i3⟩ := runs_spec h0 n
    by_cases hp : p (n + 1) = true
    · by_cases hj : p n = true
      · obtain ⟨q, lo, hq⟩ := runs_last h0 hj
        have e : runs p (n + 1) = q ++ [(lo, ((n + 1 : Nat) : Int))] := by simp only [runs, hp, if_true, ext, hj, hq]; simp
        rw [hq] at i1 i2 i3
        rw [e]
        refine ⟨fun r hr => ?_, fun m => ?_, by simp at i3 ⊢; omega⟩
        · rcases List.mem_append.1 hr with hr | hr
          · have := i1 r (List.mem_append_left _ hr); omega
          · have h2 := i1 (lo, (n : Int)) (by simp)
            simp at hr; subst hr; dsimp only at h2 ⊢; omega
        · have h2 := i1 (lo, (n : Int)) (by simp)
          have h3 := i2 m
          rw [has_append] at h3 ⊢
          simp only [has, List.any_cons, List.any_nil, Bool.or_false] at h3 ⊢
          dsimp only at h2
          by_cases c1 : m ≤ n
          · have c2 : m ≤ n + 1 := by omega
            have e3 : decide (lo ≤ (m : Int) ∧ (m : Int) ≤ ((n + 1 : Nat) : Int)) = decide (lo ≤ (m : Int) ∧ (m : Int) ≤ (n : Int)) := decide_eq_decide.2 ⟨fun h => ⟨h.1, by omega⟩, fun h => ⟨h.1, by omega⟩⟩
            rw [e3, h3]; simp [c1, c2]
          · by_cases c2 : m = n + 1
            · subst c2
              have d : decide (lo ≤ ((n + 1 : Nat) : Int) ∧ ((n + 1 : Nat) : Int) ≤ ((n + 1 : Nat) : Int)) = true := decide_eq_true ⟨by omega, by omega⟩
              rw [d, hp]; simp
            · have c3 : ¬ m ≤ n + 1 := by omega
              have c4 : ¬ ((m : Int) ≤ ((n + 1 : Nat) : Int)) := by omega
              simp only [c1, decide_false, Bool.false_and, Bool.or_eq_false_iff] at h3
              have d : decide (lo ≤ (m : Int) ∧ (m : Int) ≤ ((n + 1 : Nat) : Int)) = false := decide_eq_false fun h => c4 h.2
              rw [h3.1, d]; simp [c3]
      · have e : runs p (n + 1) = runs p n ++ [(((n + 1 : Nat) : Int), ((n + 1 : Nat) : Int))] := by simp only [runs, hp, if_true, ext, hj]; simp
        rw [e]
        refine ⟨fun r hr => ?_, fun m => ?_, by simp; omega⟩
        · rcases List.mem_append.1 hr with hr | hr
          · have := i1 r hr; omega
          · simp at hr; subst hr; dsimp only; omega
        · rw [has_append, i2 m]
          simp only [has, List.any_cons, List.any_nil, Bool.or_false]
          by_cases c2 : m = n + 1
          · subst c2; simp [hp]
          · have c4 : ¬ (((n + 1 : Nat) : Int) ≤ (m : Int) ∧ (m : Int) ≤ ((n + 1 : Nat) : Int)) := by omega
            have c5 : decide (m ≤ n + 1) = decide (m ≤ n) := decide_eq_decide.2 (by omega)
            simp only [c4, c5, decide_false, Bool.or_false]
    · have e : runs p (n + 1) = runs p n := by simp only [runs, hp]; simp
      rw [e]
      refine ⟨fun r hr => by have := i1 r hr; omega, fun m => ?_, by omega⟩
      rw [i2 m]
      by_cases c2 : m = n + 1
      · subst c2
        have : ¬ n + 1 ≤ n := by omega
        simp [this, hp]
      · have c5 : decide (m ≤ n + 1) = decide (m ≤ n) := decide_eq_decide.2 (by omega)
        rw [c5]
theorem chain_snoc : ∀ {l : List (Int × Int)} {b : Int} {r : Int × Int}, Chain b l → (∀ x ∈ l, x.2 + 1 < r.1) → b < r.1 → r.1 ≤ r.2 → r.2 ≤ 9999 → Chain b (l ++ [r])
  | [], b, r, h, h1, h2, h3, h4 => ⟨h2, h3, h4, trivial⟩
  | x :: l, b, r, h, h1, h2, h3, h4 => ⟨h.1, h.2.1, h.2.2.1, chain_snoc h.2.2.2 (fun y hy => h1 y (by simp [hy])) (by have := h1 x (by simp); omega) h3 h4⟩
theorem chain_set_last : ∀ {l : List (Int × Int)} {b : Int} {lo hi hi' : Int}, Chain b (l ++ [(lo, hi)]) → hi ≤ hi' → hi' ≤ 9999 → Chain b (l ++ [(lo, hi')])
  | [], b, lo, hi, hi', h, h1, h2 => ⟨h.1, by have := h.2.1; dsimp only at this ⊢; omega, h2, trivial⟩
  | x :: l, b, lo, hi, hi', h, h1, h2 => ⟨h.1, h.2.1, h.2.2.1, chain_set_last h.2.2.2 h1 h2⟩
theorem runs_chain {p : Nat → Bool} (h0 : p 0 = false) : ∀ n : Nat, n ≤ 9999 → Chain 0 (runs p n)
  | 0, h => trivial
  | n + 1, h => by
    have ih := runs_chain h0 n (by omega)
    obtain ⟨i1, i2, i3⟩ := runs_spec h0 n
    by_cases hp : p (n + 1) = true
    · by_cases hj : p n = true
      · obtain ⟨q, lo, hq⟩ := runs_last h0 hj
        have e : runs p (n + 1) = q ++ [(lo, ((n + 1 : Nat) : Int))] := by simp only [runs, hp, if_true, ext, hj, hq]; simp
        rw [e]
        rw [hq] at ih
        exact chain_set_last ih (by omega) (by omega)
      · have e : runs p (n + 1) = runs p n ++ [(((n + 1 : Nat) : Int), ((n + 1 : Nat) : Int))] := by simp only [runs, hp, if_true, ext, hj]; simp
        rw [e]
        refine chain_snoc ih (fun x hx => ?_) (by dsimp only; omega) (by dsimp only; omega) (by dsimp only; omega)
        have h1 := i1 x hx
        dsimp only
        rcases Int.lt_or_eq_of_le h1.2.2 with h2 | h2
        · omega
        · exfalso
          have h3 := i2 n
          have : has (runs p n) (n : Int) = true := List.any_eq_true.2 ⟨x, hx, by simp; omega⟩
          rw [this] at h3
          simp at h3
          exact hj h3
    · have e : runs p (n + 1) = runs p n := by simp only [runs, hp]; simp
      rw [e]; exact ih
theorem l05Set_at {bits : List Bool} (hl : bits.length = 10001) (p : Nat → Bool) (hp : ∀ n, n < 10001 → bits[n]? = some (p n)) (h0 : p 0 = false) : ∀ k : Nat, k ≤ 9999 →
    spec_l05Set_L1 bits (runs p (9999 - k), ((10000 - k : Nat) : Int)) = some (if SetOK (runs p 9999) then (runs p 9999, true) else ([], false))
  | 0, _ => by
    rw [spec_l05Set_L1_eq]
    unfold spec_l05Set_L1_B
    have := (runs_spec h0 9999).2.2
    simp only [specSetOk_eq (s := runs p 9999) (by omega), Nat.sub_zero, Option.bind_some]
    by_cases h : SetOK (runs p 9999) <;> simp [h]
  | k + 1, hk => by
    have ih := l05Set_at hl p hp h0 k (by omega)
    obtain ⟨m, hm⟩ : ∃ m, 9999 - (k + 1) = m := ⟨_, rfl⟩
    have e1 : 9999 - k = m + 1 := by omega
    have e2 : 10000 - (k + 1) = m + 1 := by omega
    have e3 : 10000 - k = m + 2 := by omega
    rw [e1, e3] at ih
    rw [hm, e2, spec_l05Set_L1_eq]
    unfold spec_l05Set_L1_B
    dsimp only
    have c1 : decide (((m + 1 : Nat) : Int) ≤ 9999) = true := by simp; omega
    have hw : w64 (((m + 1 : Nat) : Int) + 1) = ((m + 2 : Nat) : Int) := by rw [w64_id] <;> omega
    have hw2 : w64 (((m + 1 : Nat) : Int) - 1) = ((m : Nat) : Int) := by rw [w64_id] <;> omega
    rw [c1, ite_true', idxO_nat (hp (m + 1) (by omega)), hw, hw2]
    obtain ⟨i1, i2, i3⟩ := runs_spec h0 m
    cases q1 : p (m + 1) with
    | false =>
      have e : runs p (m + 1) = runs p m := by simp only [runs, q1]; simp
      rw [e] at ih
      simp only [Bool.not_false, ite_true']
      exact ih
    | true =>
      simp only [Bool.not_true, ite_false', idxO_nat (hp m (by omega))]
      cases q2 : p m with
      | false =>
        have e : runs p (m + 1) = runs p m ++ [(((m + 1 : Nat) : Int), ((m + 1 : Nat) : Int))] := by simp only [runs, q1, if_true, ext, q2]; simp
        have hlen : w64 (((runs p m ++ [(((m + 1 : Nat) : Int), (0 : Int))]).length : Int) - 1) = ((runs p m).length : Int) := by
          rw [w64_id] <;> simp <;> omega
        simp only [Bool.not_false, ite_true', hlen, Int.toNat_natCast, modify_last]
        rw [reqO_pos (by simp [bound]; omega), reqO_pos (by simp; omega), ← e]
        exact ih
      | true =>
        obtain ⟨q, lo, hq⟩ := runs_last h0 q2
        have e : runs p (m + 1) = q ++ [(lo, ((m + 1 : Nat) : Int))] := by simp only [runs, q1, if_true, ext, q2, hq]; simp
        have hql : q.length + 1 ≤ m := by rw [hq] at i3; simpa using i3
        have hlen : w64 (((q ++ [(lo, ((m : Nat) : Int))]).length : Int) - 1) = (q.length : Int) := by
          rw [w64_id] <;> simp <;> omega
        simp only [Bool.not_true, ite_false', hq, hlen, Int.toNat_natCast, modify_last]
        rw [reqO_pos (by simp; omega), ← e]
        exact ih
theorem l05Set_eq {bits : List Bool} (hl : bits.length = 10001) (p : Nat → Bool) (hp : ∀ n, n < 10001 → bits[n]? = some (p n)) (h0 : p 0 = false) :
    spec_l05Set bits = some (if SetOK (runs p 9999) then (runs p 9999, true) else ([], false)) := by
  have := l05Set_at hl p hp h0 9999 (Nat.le_refl _)
  rw [show 9999 - 9999 = 0 from rfl, show 10000 - 9999 = 1 from rfl] at this
  exact this
end Go.M
namespace Go.M
open Go.Ev Go.G
def mk (p : Nat → Bool) : List Bool := (List.range 10001).map p
theorem mk_get (p : Nat → Bool) {n : Nat} (h : n < 10001) : (mk p)[n]? = some (p n) := by simp [mk, h]
theorem mk_length (p : Nat → Bool) : (mk p).length = 10001 := by simp [mk]
def upd (p : Nat → Bool) (k : Nat) (t : Bool) : Nat → Bool := fun n => if n = k then t else p n
theorem mk_set (p : Nat → Bool) {k : Nat} (t : Bool) : (mk p).set k t = mk (upd p k t) := by
  apply List.ext_getElem?
  intro n
  rw [List.getElem?_set]
  by_cases hn : n < 10001
  · rw [mk_get _ hn, mk_get _ hn]
    by_cases h : k = n
    · subst h; simp [upd, mk_length, hn]
    · rw [if_neg h]; simp [upd, show ¬ n = k from fun h' => h h'.symm]
  · have e1 : (mk p)[n]? = none := by rw [List.getElem?_eq_none]; rw [mk_length]; omega
    have e2 : (mk (upd p k t))[n]? = none := by rw [List.getElem?_eq_none]; rw [mk_length]; omega
    rw [e1, e2]
    split
    · rw [if_neg (by rw [mk_length]; omega)]
    · rfl
def rng (p : Nat → Bool) (a b : Nat) (t : Bool) : Nat → Bool := fun n => if a ≤ n ∧ n < b then t else p n
theorem rng_zero (p : Nat → Bool) (a : Nat) (t : Bool) : rng p a a t = p := by
  funext n; unfold rng; rw [if_neg (by omega)]
theorem rng_step (p : Nat → Bool) {a b : Nat} (h : a < b) (t : Bool) : rng (upd p a t) (a + 1) b t = rng p a b t := by
  funext n; unfold rng upd
  by_cases h1 : n = a
  · subst h1; rw [if_neg (by omega), if_pos rfl, if_pos (by omega)]
  · by_cases h2 : a + 1 ≤ n ∧ n < b
    · rw [if_pos h2, if_pos (by omega)]
    · rw [if_neg h2, if_neg h1, if_neg (by omega)]
theorem mk_congr {p q : Nat → Bool} (h : ∀ n, n < 10001 → p n = q n) : mk p = mk q := by
  apply List.ext_getElem?
  intro n
  by_cases hn : n < 10001
  · rw [mk_get _ hn, mk_get _ hn, h n hn]
  · rw [List.getElem?_eq_none (by rw [mk_length]; omega), List.getElem?_eq_none (by rw [mk_length]; omega)]
theorem l05Bits_in (s : List (Int × Int)) (i : Nat) (r : Int × Int) (hi : s[i]? = some r) (hil : i < 2147483648) (h9 : r.2 ≤ 9999) (v : Int × List Bool) (hv : v.1 = (i : Int)) (go : (Int × List Bool) → Option (List Bool)) : ∀ (k a : Nat) (p : Nat → Bool), (a : Int) + k = r.2 + 1 →
    spec_l05Bits_L2 s v go ((a : Int), mk p) = go (((i + 1 : Nat) : Int), mk (rng p a (a + k) true))
  | 0, a, p, h => by
    rw [spec_l05Bits_L2_eq]; unfold spec_l05Bits_L2_B
    rw [hv, idxO_nat hi]
    have c : decide ((a : Int) ≤ r.2) = false := by simp; omega
    dsimp only
    rw [c, ite_false']
    simp only [Nat.add_zero, rng_zero]
    rw [w64_id (by omega) (by omega)]; rfl
  | k + 1, a, p, h => by
    rw [spec_l05Bits_L2_eq]; unfold spec_l05Bits_L2_B
    rw [hv, idxO_nat hi]
    have c : decide ((a : Int) ≤ r.2) = true := by simp; omega
    dsimp only
    rw [c, ite_true', reqO_pos (by rw [mk_length]; omega), Int.toNat_natCast, mk_set, show w64 ((a : Int) + 1) = ((a + 1 : Nat) : Int) by rw [w64_id] <;> omega]
    rw [l05Bits_in s i r hi hil h9 v hv go k (a + 1) _ (by omega), show a + 1 + k = a + (k + 1) by omega, rng_step _ (by omega)]
theorem chain_tail : ∀ {b b' : Int} {l : List (Int × Int)}, Chain b l → b' ≤ b → Chain b' l
  | _, _, [], h, hb => trivial
  | b, b', r :: l, h, hb => ⟨by have := h.1; omega, h.2⟩
theorem chain_mem : ∀ {b : Int} {l : List (Int × Int)}, Chain b l → ∀ r ∈ l, b < r.1 ∧ r.1 ≤ r.2 ∧ r.2 ≤ 9999
  | b, x :: l, h, r, hr => by
    rcases List.mem_cons.1 hr with rfl | hr
    · exact ⟨h.1, h.2.1, h.2.2.1⟩
    · have := chain_mem h.2.2.2 r hr; have := h.1; have := h.2.1; omega
theorem l05Bits_at : ∀ (l pre : List (Int × Int)) (p : Nat → Bool), Chain 0 l → pre.length + l.length < 2147483648 →
    spec_l05Bits_L1 (pre ++ l) (((pre.length : Nat) : Int), mk p) = some (mk fun n => p n || has l (n : Int))
  | [], pre, p, hc, hl => by
    rw [spec_l05Bits_L1_eq]; unfold spec_l05Bits_L1_B
    simp [has]
  | r :: l, pre, p, hc, hl => by
    simp only [List.length_cons] at hl
    have h1 := hc.1; have h2 := hc.2.1; have h3 := hc.2.2.1
    rw [spec_l05Bits_L1_eq]; unfold spec_l05Bits_L1_B
    dsimp only
    rw [lt_mid, ite_true', idx_mid]
    obtain ⟨a, ha⟩ : ∃ a : Nat, r.1 = (a : Int) := ⟨r.1.toNat, by omega⟩
    obtain ⟨k, hk⟩ : ∃ k : Nat, (a : Int) + k = r.2 + 1 := ⟨(r.2 + 1 - a).toNat, by omega⟩
    rw [ha, l05Bits_in (pre ++ r :: l) pre.length r (by simp) (by omega) h3 _ rfl _ k a p hk]
    have ih := l05Bits_at l (pre ++ [r]) (rng p a (a + k) true) (chain_tail hc.2.2.2 (by omega)) (by simp; omega)
    rw [← mid_assoc, show (pre ++ [r]).length = pre.length + 1 by simp] at ih
    rw [ih]
    refine congrArg some (mk_congr fun n hn => ?_)
    simp only [has, List.any_cons, rng]
    have e : decide (r.1 ≤ (n : Int) ∧ (n : Int) ≤ r.2) = decide (a ≤ n ∧ n < a + k) := decide_eq_decide.2 (by omega)
    rw [e]
    by_cases c : a ≤ n ∧ n < a + k <;> simp [c]
theorem l05Bits_eq {s : List (Int × Int)} (hc : Chain 0 s) (hl : s.length < 2147483648) : spec_l05Bits s = some (mk fun n => has s (n : Int)) := by
  unfold spec_l05Bits
  rw [reqO_pos (by simp [bound])]
  have e : List.replicate (10001 : Int).toNat false = mk fun _ => false := by
    apply List.ext_getElem?
    intro n
    by_cases hn : n < 10001
    · rw [mk_get _ hn, List.getElem?_replicate, if_pos (by omega)]
    · have e1 : (List.replicate (10001 : Int).toNat false)[n]? = none := by rw [List.getElem?_eq_none]; rw [List.length_replicate]; omega
      have e2 : (mk fun _ => false)[n]? = none := by rw [List.getElem?_eq_none]; rw [mk_length]; omega
      rw [e1, e2]
  rw [e]
  have := l05Bits_at s [] (fun _ => false) hc (by simpa using hl)
  simpa using this
theorem l05Put_at (s : List (Int × Int)) (hi : Int) (to : Bool) (h9 : hi ≤ 9999) : ∀ (k a : Nat) (p : Nat → Bool), (a : Int) + k = hi + 1 →
    spec_l05Put_L1 s hi to ((a : Int), mk p) = (spec_l05Set (mk (rng p a (a + k) to))).bind fun y => if (!y.2) = true then some (([] : List (Int × Int)) ++ s, false) else some (y.1, true)
  | 0, a, p, h => by
    rw [spec_l05Put_L1_eq]; unfold spec_l05Put_L1_B
    have c : decide ((a : Int) ≤ hi) = false := by simp; omega
    dsimp only
    rw [c, ite_false']
    simp only [Nat.add_zero, rng_zero]
  | k + 1, a, p, h => by
    rw [spec_l05Put_L1_eq]; unfold spec_l05Put_L1_B
    have c : decide ((a : Int) ≤ hi) = true := by simp; omega
    dsimp only
    rw [c, ite_true', reqO_pos (by rw [mk_length]; omega), Int.toNat_natCast, mk_set, show w64 ((a : Int) + 1) = ((a + 1 : Nat) : Int) by rw [w64_id] <;> omega]
    rw [l05Put_at s hi to h9 k (a + 1) _ (by omega), show a + 1 + k = a + (k + 1) by omega, rng_step _ (by omega)]
def putP (s : List (Int × Int)) (lo hi : Int) (to : Bool) (n : Nat) : Bool := if lo ≤ (n : Int) ∧ (n : Int) ≤ hi then to else has s (n : Int)
def put (s : List (Int × Int)) (lo hi : Int) (to : Bool) : List (Int × Int) × Bool :=
  if SetOK s ∧ 1 ≤ lo ∧ lo ≤ hi ∧ hi ≤ 9999 ∧ SetOK (runs (putP s lo hi to) 9999) then (runs (putP s lo hi to) 9999, true) else (s, false)
theorem putP_zero {s : List (Int × Int)} {lo hi : Int} {to : Bool} (h : SetOK s) (hlo : 1 ≤ lo) : putP s lo hi to 0 = false := by
  unfold putP
  rw [if_neg (by omega)]
  unfold has
  rw [List.any_eq_false]
  intro r hr
  have := chain_mem h.1 r hr
  simp; omega
theorem l05Put_eq {s : List (Int × Int)} (lo hi : Int) (to : Bool) (hl : s.length < 1073741824) : spec_l05Put s lo hi to = some (put s lo hi to) := by
  unfold spec_l05Put put
  rw [reqO_pos (by simp [bound]; omega), specSetOk_eq (by omega)]
  simp only [Option.bind_some, l01In_eq, List.nil_append]
  by_cases h1 : SetOK s
  · by_cases h2 : 1 ≤ lo ∧ lo ≤ hi
    · by_cases h3 : 9999 < hi
      · have : ¬ hi ≤ 9999 := by omega
        simp [h1, h2, h3, this]
      · have h3' : hi ≤ 9999 := by omega
        rw [l05Bits_eq h1.1 (by omega)]
        obtain ⟨a, ha⟩ : ∃ a : Nat, lo = (a : Int) := ⟨lo.toNat, by omega⟩
        obtain ⟨k, hk⟩ : ∃ k : Nat, (a : Int) + k = hi + 1 := ⟨(hi + 1 - a).toNat, by omega⟩
        have e : mk (rng (fun n => has s (n : Int)) a (a + k) to) = mk (putP s lo hi to) := by
          apply mk_congr
          intro n _
          unfold rng putP
          by_cases c : a ≤ n ∧ n < a + k
          · rw [if_pos c, if_pos (by omega)]
          · rw [if_neg c, if_neg (by omega)]
        simp only [Option.bind_some, h1, h2, h3, and_self, decide_true, decide_false, Bool.not_true, ite_false', if_false, Bool.false_eq_true]
        rw [ha, l05Put_at s hi to h3' k a _ hk, e, ← ha]
        rw [l05Set_eq (mk_length _) (putP s lo hi to) (fun n hn => mk_get _ hn) (putP_zero h1 h2.1)]
        by_cases h4 : SetOK (runs (putP s lo hi to) 9999) <;> simp [h1, h2, h3', h4]
    · have : ¬ (1 ≤ lo ∧ lo ≤ hi ∧ hi ≤ 9999 ∧ SetOK (runs (putP s lo hi to) 9999)) := fun h => h2 ⟨h.1, h.2.1⟩
      simp [h1, h2, this]
  · simp [h1]
theorem setAdd_eq {s : List (Int × Int)} (lo hi : Int) (hl : s.length < 1073741824) : spec_SetAdd s lo hi = some (put s lo hi true) := by
  unfold spec_SetAdd
  rw [l05Put_eq lo hi true hl]; rfl
theorem put_ok {s : List (Int × Int)} (h : SetOK s) (lo hi : Int) (to : Bool) : SetOK (put s lo hi to).1 := by
  unfold put
  split
  · rename_i c; exact c.2.2.2.2
  · exact h
end Go.M
namespace Go.M
open Go.Ev Go.G
open Classical in
noncomputable def tr (p : Prop) : Bool := decide p
theorem tr_iff {p : Prop} : tr p = true ↔ p := by simp [tr]
theorem tr_yes {p : Prop} (h : p) : tr p = true := tr_iff.2 h
theorem tr_no {p : Prop} (h : ¬ p) : tr p = false := by simp [tr, h]
theorem tr_congr {p q : Prop} (h : p ↔ q) : tr p = tr q := by rw [propext h]
theorem tr_dec {p : Prop} [Decidable p] : decide p = tr p := by
  by_cases h : p
  · rw [tr_yes h, decide_eq_true h]
  · rw [tr_no h, decide_eq_false h]
theorem some_tr {p q : Prop} (h : p ↔ q) : some (tr p) = some (tr q) := by rw [tr_congr h]
theorem loop_chk2 {β : Type} {L : Int → Option β} {n : Nat} (c : Nat → Prop) {C F : Option β} (hn : n < 2147483648) (step : ∀ i, i < n → (∀ k, k < i → c k) → (c i → L (i : Int) = L (w64 ((i : Int) + 1))) ∧ (¬ c i → L (i : Int) = F)) (fin : (∀ k, k < n → c k) → L (n : Int) = C) :
    ((∀ i, i < n → c i) → L 0 = C) ∧ (¬ (∀ i, i < n → c i) → L 0 = F) := by
  have key : ∀ k i, i + k = n → (∀ j, j < i → c j) → ((∀ i, i < n → c i) → L (i : Int) = C) ∧ (¬ (∀ i, i < n → c i) → L (i : Int) = F) := by
    intro k
    induction k with
    | zero =>
      intro i hi hc
      have hi' : i = n := by omega
      subst hi'
      exact ⟨fun h => fin hc, fun h => absurd hc h⟩
    | succ k ih =>
      intro i hi hc
      obtain ⟨h1, h2⟩ := step i (by omega) hc
      by_cases hci : c i
      · rw [h1 hci, show w64 ((i : Int) + 1) = ((i + 1 : Nat) : Int) by rw [w64_id] <;> omega]
        refine ih (i + 1) (by omega) fun j hj => ?_
        by_cases e : j = i
        · subst e; exact hci
        · exact hc j (by omega)
      · rw [h2 hci]
        exact ⟨fun h => absurd (h i (by omega)) hci, fun _ => rfl⟩
  have := key n 0 (by omega) (fun j hj => by omega)
  simpa using this
theorem loop_chk {L : Int → Option Bool} {n : Nat} (c : Nat → Prop) {E : Prop} (hn : n < 2147483648) (step : ∀ i, i < n → (∀ k, k < i → c k) → (c i → L (i : Int) = L (w64 ((i : Int) + 1))) ∧ (¬ c i → L (i : Int) = some false)) (fin : (∀ k, k < n → c k) → L (n : Int) = some (tr E)) :
    L 0 = some (tr ((∀ i, i < n → c i) ∧ E)) := by
  obtain ⟨h1, h2⟩ := loop_chk2 c hn step fin
  by_cases h : ∀ i, i < n → c i
  · rw [h1 h]; exact some_tr ⟨fun e => ⟨h, e⟩, fun e => e.2⟩
  · rw [h2 h, tr_no fun e => h e.1]
theorem dlt {i n : Nat} (h : i < n) : decide ((i : Int) < (n : Int)) = true := by simp; exact h
theorem get_of {α : Type} {l : List α} {i : Nat} (h : i < l.length) : ∃ r, l[i]? = some r := ⟨l[i], List.getElem?_eq_getElem h⟩
theorem byteAt_nat {s : List UInt8} {i : Nat} {x : UInt8} (h : s[i]? = some x) : byteAt s (i : Int) = (x.toNat : Int) := by
  unfold byteAt
  rw [Int.toNat_natCast, List.getD_eq_getElem?_getD, h]; rfl
theorem u8lt (x : UInt8) : x.toNat < 256 := x.toNat_lt
def NameOK (s : List UInt8) : Prop := (∀ i, i < s.length → ∀ x, s[i]? = some x → 97 ≤ x.toNat ∧ x.toNat ≤ 122) ∧ (1 ≤ s.length ∧ s.length ≤ 8)
theorem specName_eq {s : List UInt8} (hl : s.length < 2147483648) : spec_BoxName s = some (tr (NameOK s)) := by
  unfold spec_BoxName NameOK
  refine loop_chk _ hl (fun i hi hc => ?_) (fun hc => ?_)
  · obtain ⟨x, hx⟩ := get_of hi
    have hb := byteAt_nat hx
    refine ⟨fun h => ?_, fun h => ?_⟩
    · have h1 := h x hx
      conv => lhs; rw [spec_BoxName_L1_eq]; unfold spec_BoxName_L1_B
      rw [dlt hi, reqO_pos (by omega), reqO_pos (by omega), hb]
      rw [if_pos rfl, if_neg (by simp; omega), if_neg (by simp; omega)]
    · conv => lhs; rw [spec_BoxName_L1_eq]; unfold spec_BoxName_L1_B
      rw [dlt hi, reqO_pos (by omega), reqO_pos (by omega), hb, if_pos rfl]
      have h1 : ¬ (97 ≤ x.toNat ∧ x.toNat ≤ 122) := fun h' => h fun y hy => by rw [hx] at hy; cases hy; exact h'
      by_cases c : x.toNat < 97
      · rw [if_pos (by simp; omega)]
      · rw [if_neg (by simp; omega), if_pos (by simp; omega)]
  · rw [spec_BoxName_L1_eq]; unfold spec_BoxName_L1_B
    rw [if_neg (by simp), l01In_eq]
    simp only [Option.bind_some, tr_dec]
    exact some_tr (by omega)
theorem implName_eq {s : List UInt8} (hl : s.length < 2147483648) : impl_BoxName s = some (tr (NameOK s)) := by
  unfold impl_BoxName NameOK
  refine loop_chk _ hl (fun i hi hc => ?_) (fun hc => ?_)
  · obtain ⟨x, hx⟩ := get_of hi
    have hb := byteAt_nat hx
    have hx8 := u8lt x
    have hw : w64 (x.toNat : Int) = (x.toNat : Int) := w64_id (by omega) (by omega)
    refine ⟨fun h => ?_, fun h => ?_⟩
    · have h1 := h x hx
      conv => lhs; rw [impl_BoxName_L1_eq]; unfold impl_BoxName_L1_B
      rw [dlt hi, reqO_pos (by omega), hb, hw, within_eq, if_pos rfl]
      simp only [Option.bind_some]
      rw [if_neg (by simp; omega)]
    · conv => lhs; rw [impl_BoxName_L1_eq]; unfold impl_BoxName_L1_B
      rw [dlt hi, reqO_pos (by omega), hb, hw, within_eq, if_pos rfl]
      have h1 : ¬ (97 ≤ x.toNat ∧ x.toNat ≤ 122) := fun h' => h fun y hy => by rw [hx] at hy; cases hy; exact h'
      simp only [Option.bind_some]
      rw [if_pos (by simp; omega)]
  · rw [impl_BoxName_L1_eq]; unfold impl_BoxName_L1_B
    rw [if_neg (by simp), within_eq]
    simp only [Option.bind_some, tr_dec]
    exact some_tr (by omega)
def MailOK (s : List UInt8) : Prop := (∀ i, i < s.length → ∀ x, s[i]? = some x → x ≠ 0) ∧ (1 ≤ s.length ∧ s.length ≤ 200)
theorem u8zero {x : UInt8} : x = 0 ↔ x.toNat = 0 := ⟨fun h => by rw [h]; rfl, fun h => UInt8.toNat.inj h⟩
theorem specMail_eq {s : List UInt8} (hl : s.length < 2147483648) : spec_MailOk s = some (tr (MailOK s)) := by
  unfold spec_MailOk MailOK
  refine loop_chk _ hl (fun i hi hc => ?_) (fun hc => ?_)
  · obtain ⟨x, hx⟩ := get_of hi
    have hb := byteAt_nat hx
    refine ⟨fun h => ?_, fun h => ?_⟩
    · have h1 := h x hx
      rw [Ne, u8zero] at h1
      conv => lhs; rw [spec_MailOk_L1_eq]; unfold spec_MailOk_L1_B
      rw [dlt hi, reqO_pos (by omega), hb, if_pos rfl, if_neg (by simp; omega)]
    · conv => lhs; rw [spec_MailOk_L1_eq]; unfold spec_MailOk_L1_B
      rw [dlt hi, reqO_pos (by omega), hb, if_pos rfl]
      have h1 : ¬ (x ≠ 0) := fun h' => h fun y hy => by rw [hx] at hy; cases hy; exact h'
      rw [Ne, Classical.not_not, u8zero] at h1
      rw [if_pos (by simp; omega)]
  · rw [spec_MailOk_L1_eq]; unfold spec_MailOk_L1_B
    rw [if_neg (by simp), l01In_eq]
    simp only [Option.bind_some, tr_dec]
    exact some_tr (by omega)
theorem indexByte_neg : ∀ (s : List UInt8) (c : Int) (n : Nat), indexByteAt s c n < 0 ↔ ∀ x ∈ s, (x.toNat : Int) ≠ c
  | [], c, n => by simp [indexByteAt]
  | b :: r, c, n => by
    unfold indexByteAt
    by_cases h : (b.toNat : Int) = c
    · rw [if_pos h]; simp [h]
    · rw [if_neg h, indexByte_neg r c (n + 1)]; simp [h]
theorem implMail_eq {s : List UInt8} : impl_MailOk s = some (tr (MailOK s)) := by
  unfold impl_MailOk MailOK strings_IndexByte
  rw [within_eq, if_pos (show (0 : Int) ≤ 0 ∧ (0 : Int) ≤ 255 by omega)]
  simp only [Option.bind_some]
  have e : (∀ x ∈ s, (x.toNat : Int) ≠ 0) ↔ ∀ i, i < s.length → ∀ x, s[i]? = some x → x ≠ 0 := by
    constructor
    · intro h i hi x hx h0
      have := h x (List.mem_of_getElem? hx)
      rw [u8zero] at h0; omega
    · intro h x hx h0
      obtain ⟨i, hi⟩ := List.getElem?_of_mem hx
      exact h i (List.getElem?_eq_some_iff.1 hi).1 x hi (u8zero.2 (by omega))
  by_cases h : 1 ≤ s.length ∧ s.length ≤ 200
  · rw [if_pos (by simp; omega), tr_dec]
    exact some_tr (by rw [indexByte_neg, e]; simp [h])
  · rw [if_neg (by simp; omega), tr_no fun h' => h h'.2]
def FlagsOK (n : Int) : Prop := 0 ≤ n ∧ n ≤ 31
theorem specFlags_eq (n : Int) : spec_FlagsOk n = some (tr (FlagsOK n)) := by
  unfold spec_FlagsOk; rw [l01In_eq]; simp only [Option.bind_some, tr_dec]; rfl
theorem implFlags_eq (n : Int) : impl_FlagsOk n = some (tr (FlagsOK n)) := by
  unfold impl_FlagsOk; rw [within_eq]; simp only [Option.bind_some, tr_dec]; rfl
def MailAtOK (b : Box) (i : Nat) : Prop := ∀ r, b.2.2.2.2.1[i]? = some r → (1 ≤ r.1 ∧ r.1 ≤ b.2.2.1 - 1) ∧ (0 < i → ∀ p, b.2.2.2.2.1[i - 1]? = some p → p.1 < r.1) ∧ FlagsOK r.2.1 ∧ (1 ≤ r.2.2.1 ∧ r.2.2.1 ≤ b.2.2.2.1) ∧ MailOK r.2.2.2
def TombAtOK (b : Box) (i : Nat) : Prop := ∀ r, b.2.2.2.2.2.1[i]? = some r → (1 ≤ r.1 ∧ r.1 ≤ b.2.2.1 - 1) ∧ (b.2.2.2.2.2.2 < r.2 ∧ r.2 ≤ b.2.2.2.1) ∧ (∀ k, k < b.2.2.2.2.1.length → ∀ m, b.2.2.2.2.1[k]? = some m → m.1 ≠ r.1) ∧
  (∀ k, k < i → ∀ x, b.2.2.2.2.2.1[k]? = some x → x.1 ≠ r.1) ∧ (0 < i → ∀ p, b.2.2.2.2.2.1[i - 1]? = some p → p.2 < r.2 ∨ (p.2 = r.2 ∧ p.1 < r.1))
def BoxOK (b : Box) : Prop := NameOK b.1 ∧ (1 ≤ b.2.1 ∧ b.2.1 ≤ 9999) ∧ (1 ≤ b.2.2.1 ∧ b.2.2.1 ≤ 9999) ∧ (1 ≤ b.2.2.2.1 ∧ b.2.2.2.1 ≤ 100000) ∧ (0 ≤ b.2.2.2.2.2.2 ∧ b.2.2.2.2.2.2 ≤ b.2.2.2.1) ∧
  b.2.2.2.2.1.length ≤ 30 ∧ b.2.2.2.2.2.1.length ≤ 40 ∧ (∀ i, i < b.2.2.2.2.1.length → MailAtOK b i) ∧ (∀ i, i < b.2.2.2.2.2.1.length → TombAtOK b i)
structure BoxSmall (b : Box) : Prop where
  name : b.1.length < 1073741824
  mails : b.2.2.2.2.1.length < 1073741824
  tombs : b.2.2.2.2.2.1.length < 1073741824
  text : ∀ m ∈ b.2.2.2.2.1, m.2.2.2.length < 1073741824
theorem prev_get {α : Type} {l : List α} {i : Nat} (h : i < l.length) (h0 : 0 < i) : ∃ p, l[i - 1]? = some p ∧ w64 ((i : Int) - 1) = w64 ((i : Int) - 1) := by
  obtain ⟨p, hp⟩ := get_of (l := l) (i := i - 1) (by omega)
  exact ⟨p, hp, rfl⟩
theorem pred64 {i : Nat} (h0 : 0 < i) (h : i < 2147483648) : w64 ((i : Int) - 1) = ((i - 1 : Nat) : Int) := by
  rw [w64_id] <;> omega
theorem hasMail_eq (b : Box) (u : Int) (hl : b.2.2.2.2.1.length < 1073741824) : spec_l08HasMail b u = some (!tr (∀ k, k < b.2.2.2.2.1.length → ∀ m, b.2.2.2.2.1[k]? = some m → m.1 ≠ u)) := by
  have h := loop_chk (L := fun v => (spec_l08HasMail_L1 b u v).map (!·)) (n := b.2.2.2.2.1.length) (fun k => ∀ m, b.2.2.2.2.1[k]? = some m → m.1 ≠ u) (E := True) (by omega) (fun i hi hc => ?_) (fun hc => ?_)
  · unfold spec_l08HasMail
    cases e : spec_l08HasMail_L1 b u 0 with
    | none => rw [e] at h; cases h
    | some t =>
      rw [e] at h
      simp only [Option.map_some, Option.some.injEq, and_true] at h
      rw [← h, Bool.not_not]
  · obtain ⟨m, hm⟩ := get_of hi
    refine ⟨fun h => ?_, fun h => ?_⟩
    · have h1 := h m hm
      conv => lhs; rw [spec_l08HasMail_L1_eq]; unfold spec_l08HasMail_L1_B
      rw [dlt hi, if_pos rfl, idxO_nat hm, if_neg (by simpa using h1)]
    · have h1 : m.1 = u := Classical.byContradiction fun h' => h fun y hy => by rw [hm] at hy; cases hy; exact h'
      rw [spec_l08HasMail_L1_eq]; unfold spec_l08HasMail_L1_B
      rw [dlt hi, if_pos rfl, idxO_nat hm, if_pos (by simpa using h1)]; rfl
  · rw [spec_l08HasMail_L1_eq]; unfold spec_l08HasMail_L1_B
    rw [if_neg (by simp), tr_yes trivial]; rfl
end Go.M
namespace Go.M
open Go.Ev Go.G
theorem get_all {α : Type} {l : List α} {i : Nat} {r : α} (h : l[i]? = some r) {P : α → Prop} : (∀ x, l[i]? = some x → P x) ↔ P r := by
  constructor
  · intro h'; exact h' r h
  · intro h' x hx; rw [h] at hx; cases hx; exact h'
theorem ite_tr {β : Type} {p : Prop} (a b : Option β) (h : p) : (if tr p = true then a else b) = a := by rw [tr_yes h]; rfl
theorem ite_ntr {β : Type} {p : Prop} (a b : Option β) (h : ¬ p) : (if tr p = true then a else b) = b := by rw [tr_no h]; rfl
theorem nite_tr {β : Type} {p : Prop} (a b : Option β) (h : p) : (if (!tr p) = true then a else b) = b := by rw [tr_yes h]; rfl
theorem nite_ntr {β : Type} {p : Prop} (a b : Option β) (h : ¬ p) : (if (!tr p) = true then a else b) = a := by rw [tr_no h]; rfl
theorem specBox_mails {b : Box} (hs : BoxSmall b) (hnx : 1 ≤ b.2.2.1 ∧ b.2.2.1 ≤ 9999) :
    ((∀ i, i < b.2.2.2.2.1.length → MailAtOK b i) → spec_BoxOk_L1 b 0 = spec_BoxOk_L2 b 0) ∧ (¬ (∀ i, i < b.2.2.2.2.1.length → MailAtOK b i) → spec_BoxOk_L1 b 0 = some false) := by
  refine loop_chk2 (MailAtOK b) (by have := hs.mails; omega) (fun i hi hc => ?_) (fun hc => ?_)
  · obtain ⟨r, hr⟩ := get_of hi
    have hlen := hs.mails
    have hnx' : w64 (b.2.2.1 - 1) = b.2.2.1 - 1 := w64_id (by omega) (by omega)
    have htx := hs.text r (List.mem_of_getElem? hr)
    have key : spec_BoxOk_L1 b (i : Int) = if tr (MailAtOK b i) = true then spec_BoxOk_L1 b (w64 ((i : Int) + 1)) else some false := by
      conv => lhs; rw [spec_BoxOk_L1_eq]; unfold spec_BoxOk_L1_B
      rw [dlt hi, if_pos rfl, idxO_nat hr, hnx', l01In_eq]
      simp only [Option.bind_some, specFlags_eq, l01In_eq, specMail_eq (s := r.2.2.2) (by omega), tr_dec]
      have e : MailAtOK b i ↔ ((1 ≤ r.1 ∧ r.1 ≤ b.2.2.1 - 1) ∧ (0 < i → ∀ p, b.2.2.2.2.1[i - 1]? = some p → p.1 < r.1) ∧ FlagsOK r.2.1 ∧ (1 ≤ r.2.2.1 ∧ r.2.2.1 ≤ b.2.2.2.1) ∧ MailOK r.2.2.2) := get_all hr
      rw [tr_congr e]
      by_cases c1 : 1 ≤ r.1 ∧ r.1 ≤ b.2.2.1 - 1
      · rw [nite_tr _ _ c1]
        by_cases c2 : FlagsOK r.2.1
        · by_cases c3 : 1 ≤ r.2.2.1 ∧ r.2.2.1 ≤ b.2.2.2.1
          · by_cases c4 : MailOK r.2.2.2
            · simp only [nite_tr _ _ c2, nite_tr _ _ c3, nite_tr _ _ c4]
              by_cases h0 : 0 < i
              · obtain ⟨p, hp, _⟩ := prev_get hi h0
                rw [ite_tr _ _ (by omega), pred64 h0 (by omega), idxO_nat hp]
                by_cases c5 : r.1 ≤ p.1
                · rw [ite_tr _ _ c5, ite_ntr _ _ fun h => by have := h.2.1 h0 p hp; omega]
                · rw [ite_ntr _ _ c5, ite_tr _ _ ⟨c1, fun _ q hq => by rw [hp] at hq; cases hq; omega, c2, c3, c4⟩]
              · rw [ite_ntr _ _ (by omega), ite_tr _ _ ⟨c1, fun h => absurd h h0, c2, c3, c4⟩]
            · simp only [nite_tr _ _ c2, nite_tr _ _ c3, nite_ntr _ _ c4]
              rw [ite_ntr (p := _ ∧ _) _ _ fun h => c4 h.2.2.2.2]
              by_cases h0 : 0 < i
              · obtain ⟨p, hp, _⟩ := prev_get hi h0
                rw [ite_tr _ _ (by omega), pred64 h0 (by omega), idxO_nat hp]
                split <;> rfl
              · rw [ite_ntr _ _ (by omega)]
          · simp only [nite_tr _ _ c2, nite_ntr _ _ c3]
            rw [ite_ntr (p := _ ∧ _) _ _ fun h => c3 h.2.2.2.1]
            by_cases h0 : 0 < i
            · obtain ⟨p, hp, _⟩ := prev_get hi h0
              rw [ite_tr _ _ (by omega), pred64 h0 (by omega), idxO_nat hp]
              split <;> rfl
            · rw [ite_ntr _ _ (by omega)]
        · simp only [nite_ntr _ _ c2]
          rw [ite_ntr (p := _ ∧ _) _ _ fun h => c2 h.2.2.1]
          by_cases h0 : 0 < i
          · obtain ⟨p, hp, _⟩ := prev_get hi h0
            rw [ite_tr _ _ (by omega), pred64 h0 (by omega), idxO_nat hp]
            split <;> rfl
          · rw [ite_ntr _ _ (by omega)]
      · rw [nite_ntr _ _ c1, ite_ntr _ _ fun h => c1 h.1]
    exact ⟨fun h => by rw [key, tr_yes h]; rfl, fun h => by rw [key, tr_no h]; rfl⟩
  · rw [spec_BoxOk_L1_eq]; unfold spec_BoxOk_L1_B
    rw [if_neg (by simp)]
end Go.M
namespace Go.M
open Go.Ev Go.G
theorem predO_fn (o : Option Bool) : predO (fun t => o = some t) = o := by
  unfold predO
  cases o with
  | none => simp
  | some b => cases b <;> simp
def idxF {α : Type} (q : α → Bool) : List α → Nat → Int
  | [], _ => -1
  | x :: r, n => if q x then (n : Int) else idxF q r (n + 1)
theorem idxF_neg {α : Type} (q : α → Bool) : ∀ (l : List α) (n : Nat), (idxF q l n < 0 ↔ ∀ x ∈ l, q x = false)
  | [], n => by simp [idxF]
  | x :: r, n => by
    unfold idxF
    by_cases h : q x = true
    · rw [if_pos h]; simp [h]
    · rw [if_neg h, idxF_neg q r (n + 1)]; simp [h]
theorem idxF_m1 {α : Type} (q : α → Bool) : ∀ (l : List α) (n : Nat), (∀ x ∈ l, q x = false) → idxF q l n = -1
  | [], n, _ => rfl
  | x :: r, n, h => by
    unfold idxF
    rw [if_neg (by simp [h x (by simp)]), idxF_m1 q r (n + 1) fun y hy => h y (by simp [hy])]
theorem idxF_at {α : Type} (q : α → Bool) : ∀ (l : List α) (n : Nat), (∃ x ∈ l, q x = true) → ∃ a x b, l = a ++ x :: b ∧ q x = true ∧ (∀ y ∈ a, q y = false) ∧ idxF q l n = ((n + a.length : Nat) : Int)
  | [], n, h => by obtain ⟨x, hx, _⟩ := h; cases hx
  | x :: r, n, h => by
    unfold idxF
    by_cases hx : q x = true
    · rw [if_pos hx]; exact ⟨[], x, r, rfl, hx, (fun y hy => by cases hy), by simp⟩
    · rw [if_neg hx]
      obtain ⟨a, y, b, h1, h2, h3, h4⟩ := idxF_at q r (n + 1) (by
        obtain ⟨y, hy, hq⟩ := h
        rcases List.mem_cons.1 hy with rfl | hy
        · exact absurd hq hx
        · exact ⟨y, hy, hq⟩)
      refine ⟨x :: a, y, b, by rw [h1]; rfl, h2, fun z hz => ?_, by rw [h4]; simp; omega⟩
      rcases List.mem_cons.1 hz with rfl | hz
      · simpa using hx
      · exact h3 z hz
section
variable {α : Type} {s : List α} {f : α → Bool → Prop} {q : α → Bool}
theorem indexFunc_at (hf : ∀ x ∈ s, predO (f x) = some (q x)) (hl : s.length < 2147483648) {L : Int → Option Int}
    (hL : ∀ v, L v = if decide (v < (s.length : Int)) = true then idxO s v fun r => (predO (f r)).bind fun t => if t = true then some v else L (w64 (v + 1)) else some (-1)) :
    ∀ (l pre : List α), s = pre ++ l → L (pre.length : Nat) = some (idxF q l pre.length)
  | [], pre, h => by
    rw [hL]
    rw [if_neg (by rw [h]; simp)]; rfl
  | r :: l, pre, h => by
    have hlen : pre.length < s.length := by rw [h]; simp
    rw [hL, dlt hlen, if_pos rfl, idxO_nat (r := r) (by rw [h]; simp), hf r (by rw [h]; simp)]
    simp only [Option.bind_some, idxF]
    rw [show w64 ((pre.length : Int) + 1) = ((pre ++ [r]).length : Nat) by rw [w64_id (by omega) (by omega)]; simp, indexFunc_at hf hl hL l (pre ++ [r]) (by rw [h]; simp)]
    by_cases hq : q r = true
    · simp [hq]
    · simp [hq]
theorem indexFunc_gen (hf : ∀ x ∈ s, predO (f x) = some (q x)) (hl : s.length < 2147483648) {L : Int → Option Int}
    (hL : ∀ v, L v = if decide (v < (s.length : Int)) = true then idxO s v fun r => (predO (f r)).bind fun t => if t = true then some v else L (w64 (v + 1)) else some (-1)) : L 0 = some (idxF q s 0) := by
  have := indexFunc_at hf hl hL s [] rfl
  simpa using this
theorem deleteFunc_at (hf : ∀ x ∈ s, predO (f x) = some (q x)) (hl : s.length < 1073741824) (z : α) {L : Int × Int × List α → Option (List α)}
    (hL : ∀ v, L v = if decide (v.2.1 < (v.2.2.length : Int)) = true then
        reqO (0 ≤ v.2.1 ∧ v.2.1 < (v.2.2.length : Int)) <| idxO v.2.2 v.2.1 fun r => (predO (f r)).bind fun t =>
        if (!t) = true then reqO (0 ≤ v.1 ∧ v.1 < (v.2.2.length : Int)) <| L ((w64 (v.1 + 1)), (w64 (v.2.1 + 1)), (v.2.2.set v.1.toNat r))
        else L (v.1, (w64 (v.2.1 + 1)), v.2.2)
      else reqO (0 ≤ v.1 ∧ v.1 ≤ (v.2.2.length : Int)) <| reqO (0 ≤ v.1 ∧ v.1 ≤ ((v.2.2.take v.1.toNat ++ List.replicate ((v.2.2.length : Int).toNat - v.1.toNat) z ++ v.2.2.drop (v.2.2.length : Int).toNat).length : Int)) <|
        some ((v.2.2.take v.1.toNat ++ List.replicate ((v.2.2.length : Int).toNat - v.1.toNat) z ++ v.2.2.drop (v.2.2.length : Int).toNat).take v.1.toNat)) :
    ∀ (l pre kept mid : List α), s = pre ++ l → kept.length + mid.length = pre.length → L (((kept.length : Nat) : Int), ((pre.length : Nat) : Int), kept ++ (mid ++ l)) = some (kept ++ l.filter fun x => !q x)
  | [], pre, kept, mid, h, hk => by
    rw [hL]
    have hlen : (kept ++ (mid ++ ([] : List α))).length = pre.length := by simp; omega
    dsimp only
    rw [hlen, if_neg (by simp)]
    rw [reqO_pos (by omega), reqO_pos (by simp; omega)]
    simp
  | r :: l, pre, kept, mid, h, hk => by
    have hlen : pre.length < s.length := by rw [h]; simp
    have hlen2 : (kept ++ (mid ++ r :: l)).length = s.length := by rw [h]; simp; omega
    rw [hL]
    dsimp only
    rw [hlen2, dlt hlen, if_pos rfl, reqO_pos (by omega), idxO_nat (r := r) (by
      rw [List.getElem?_append_right (by omega), List.getElem?_append_right (by omega)]
      rw [show pre.length - kept.length - mid.length = 0 by omega]; rfl), hf r (by rw [h]; simp)]
    simp only [Option.bind_some]
    have hw : w64 ((pre.length : Int) + 1) = ((pre ++ [r]).length : Nat) := by rw [w64_id (by omega) (by omega)]; simp
    by_cases hq : q r = true
    · rw [if_neg (by simp [hq]), hw]
      have ih := deleteFunc_at hf hl z hL l (pre ++ [r]) kept (mid ++ [r]) (by rw [h]; simp) (by simp; omega)
      simp only [List.append_assoc, List.singleton_append] at ih
      rw [ih]; simp [hq]
    · rw [if_pos (by simp [hq]), reqO_pos (by omega), hw, Int.toNat_natCast, show w64 ((kept.length : Int) + 1) = ((kept ++ [r]).length : Nat) by rw [w64_id (by omega) (by omega)]; simp]
      have hq' : q r = false := by simpa using hq
      cases mid with
      | nil =>
        have ih := deleteFunc_at hf hl z hL l (pre ++ [r]) (kept ++ [r]) [] (by rw [h]; simp) (by simp at hk ⊢; omega)
        have e : (kept ++ ([] ++ r :: l)).set kept.length r = kept ++ [r] ++ ([] ++ l) := by simp
        rw [e, ih]; simp [hq']
      | cons m mid =>
        have ih := deleteFunc_at hf hl z hL l (pre ++ [r]) (kept ++ [r]) (mid ++ [r]) (by rw [h]; simp) (by simp at hk ⊢; omega)
        have e : (kept ++ ((m :: mid) ++ r :: l)).set kept.length r = kept ++ [r] ++ ((mid ++ [r]) ++ l) := by simp
        rw [e, ih]; simp [hq']
end
theorem indexMail {s : List Mail} {f : Mail → Bool → Prop} {q : Mail → Bool} (hf : ∀ x ∈ s, predO (f x) = some (q x)) (hl : s.length < 2147483648) : slices_IndexFunc_impl_Mail s f = some (idxF q s 0) :=
  indexFunc_gen hf hl fun v => slices_IndexFunc_impl_Mail_L1_eq s f v
theorem indexTomb {s : List (Int × Int)} {f : Int × Int → Bool → Prop} {q : Int × Int → Bool} (hf : ∀ x ∈ s, predO (f x) = some (q x)) (hl : s.length < 2147483648) : slices_IndexFunc_impl_Tomb s f = some (idxF q s 0) :=
  indexFunc_gen hf hl fun v => slices_IndexFunc_impl_Tomb_L1_eq s f v
theorem indexBox {s : List Box} {f : Box → Bool → Prop} {q : Box → Bool} (hf : ∀ x ∈ s, predO (f x) = some (q x)) (hl : s.length < 2147483648) : slices_IndexFunc_impl_Box s f = some (idxF q s 0) :=
  indexFunc_gen hf hl fun v => slices_IndexFunc_impl_Box_L1_eq s f v
theorem any_idxF {α : Type} (q : α → Bool) (l : List α) : decide (0 ≤ idxF q l 0) = l.any q := by
  rw [Bool.eq_iff_iff, decide_eq_true_eq, List.any_eq_true]
  have := idxF_neg q l 0
  constructor
  · intro h
    refine Classical.byContradiction fun hn => ?_
    have h2 := this.2 fun x hx => by
      cases e : q x with
      | false => rfl
      | true => exact absurd ⟨x, hx, e⟩ hn
    omega
  · rintro ⟨x, hx, hq⟩
    refine Classical.byContradiction fun hn => ?_
    have h2 := this.1 (by omega) x hx
    rw [hq] at h2; cases h2
theorem containsMail {s : List Mail} {f : Mail → Bool → Prop} {q : Mail → Bool} (hf : ∀ x ∈ s, predO (f x) = some (q x)) (hl : s.length < 2147483648) : slices_ContainsFunc_impl_Mail s f = some (s.any q) := by
  unfold slices_ContainsFunc_impl_Mail
  rw [indexMail hf hl]; simp only [Option.bind_some, any_idxF]
theorem containsTomb {s : List (Int × Int)} {f : Int × Int → Bool → Prop} {q : Int × Int → Bool} (hf : ∀ x ∈ s, predO (f x) = some (q x)) (hl : s.length < 2147483648) : slices_ContainsFunc_impl_Tomb s f = some (s.any q) := by
  unfold slices_ContainsFunc_impl_Tomb
  rw [indexTomb hf hl]; simp only [Option.bind_some, any_idxF]
section
variable {α : Type} {s : List α} {f : α → Bool → Prop} {q : α → Bool}
theorem deleteFunc_gen (hf : ∀ x ∈ s, predO (f x) = some (q x)) (hl : s.length < 1073741824) (z : α) {L : Int × Int × List α → Option (List α)}
    (hL : ∀ v, L v = if decide (v.2.1 < (v.2.2.length : Int)) = true then
        reqO (0 ≤ v.2.1 ∧ v.2.1 < (v.2.2.length : Int)) <| idxO v.2.2 v.2.1 fun r => (predO (f r)).bind fun t =>
        if (!t) = true then reqO (0 ≤ v.1 ∧ v.1 < (v.2.2.length : Int)) <| L ((w64 (v.1 + 1)), (w64 (v.2.1 + 1)), (v.2.2.set v.1.toNat r))
        else L (v.1, (w64 (v.2.1 + 1)), v.2.2)
      else reqO (0 ≤ v.1 ∧ v.1 ≤ (v.2.2.length : Int)) <| reqO (0 ≤ v.1 ∧ v.1 ≤ ((v.2.2.take v.1.toNat ++ List.replicate ((v.2.2.length : Int).toNat - v.1.toNat) z ++ v.2.2.drop (v.2.2.length : Int).toNat).length : Int)) <|
        some ((v.2.2.take v.1.toNat ++ List.replicate ((v.2.2.length : Int).toNat - v.1.toNat) z ++ v.2.2.drop (v.2.2.length : Int).toNat).take v.1.toNat)) :
    (if decide (idxF q s 0 = (-1 : Int)) = true then some s else L (idxF q s 0, w64 (idxF q s 0 + 1), s)) = some (s.filter fun x => !q x) := by
  by_cases h : ∃ x ∈ s, q x = true
  · obtain ⟨a, x, b, h1, h2, h3, h4⟩ := idxF_at q s 0 h
    rw [h4, if_neg (by simp)]
    have hlen : a.length < s.length := by rw [h1]; simp
    have := deleteFunc_at hf hl z hL b (a ++ [x]) a [x] (by rw [h1]; simp) (by simp)
    rw [show w64 (((0 + a.length : Nat) : Int) + 1) = ((a ++ [x]).length : Nat) by rw [w64_id (by omega) (by omega)]; simp, Nat.zero_add]
    have e : s = a ++ ([x] ++ b) := by rw [h1]; simp
    conv => lhs; rw [e]
    rw [this, e]
    have ha : a.filter (fun x => !q x) = a := List.filter_eq_self.2 fun y hy => by simp [h3 y hy]
    simp [h2, ha]
  · have h' : ∀ x ∈ s, q x = false := fun x hx => by
      cases e : q x with
      | false => rfl
      | true => exact absurd ⟨x, hx, e⟩ h
    rw [idxF_m1 q s 0 h', if_pos (by simp)]
    congr 1
    exact (List.filter_eq_self.2 fun y hy => by simp [h' y hy]).symm
end
theorem deleteMail {s : List Mail} {f : Mail → Bool → Prop} {q : Mail → Bool} (hf : ∀ x ∈ s, predO (f x) = some (q x)) (hl : s.length < 1073741824) : slices_DeleteFunc_impl_Mail s f = some (s.filter fun x => !q x) := by
  unfold slices_DeleteFunc_impl_Mail
  rw [indexMail hf (by omega)]
  simp only [Option.bind_some]
  exact deleteFunc_gen hf hl _ fun v => slices_DeleteFunc_impl_Mail_L1_eq f v
theorem deleteTomb {s : List (Int × Int)} {f : Int × Int → Bool → Prop} {q : Int × Int → Bool} (hf : ∀ x ∈ s, predO (f x) = some (q x)) (hl : s.length < 1073741824) : slices_DeleteFunc_impl_Tomb s f = some (s.filter fun x => !q x) := by
  unfold slices_DeleteFunc_impl_Tomb
  rw [indexTomb hf (by omega)]
  simp only [Option.bind_some]
  exact deleteFunc_gen hf hl _ fun v => slices_DeleteFunc_impl_Tomb_L1_eq f v
end Go.M
namespace Go.M
open Go.Ev Go.G
theorem implBox_mails {b : Box} (hs : BoxSmall b) (hnx : 1 ≤ b.2.2.1 ∧ b.2.2.1 ≤ 9999) :
    impl_mailsOk b = some (tr ((∀ i, i < b.2.2.2.2.1.length → MailAtOK b i) ∧ b.2.2.2.2.1.length ≤ 30)) := by
  unfold impl_mailsOk
  refine loop_chk (MailAtOK b) (by have := hs.mails; omega) (fun i hi hc => ?_) (fun hc => ?_)
  · obtain ⟨r, hr⟩ := get_of hi
    have hlen := hs.mails
    have hnx' : w64 (b.2.2.1 - 1) = b.2.2.1 - 1 := w64_id (by omega) (by omega)
    have key : impl_mailsOk_L1 b (i : Int) = if tr (MailAtOK b i) = true then impl_mailsOk_L1 b (w64 ((i : Int) + 1)) else some false := by
      conv => lhs; rw [impl_mailsOk_L1_eq]; unfold impl_mailsOk_L1_B
      rw [dlt hi, if_pos rfl, idxO_nat hr, hnx', within_eq]
      simp only [Option.bind_some, implFlags_eq, within_eq, implMail_eq, tr_dec]
      have e : MailAtOK b i ↔ ((1 ≤ r.1 ∧ r.1 ≤ b.2.2.1 - 1) ∧ (0 < i → ∀ p, b.2.2.2.2.1[i - 1]? = some p → p.1 < r.1) ∧ FlagsOK r.2.1 ∧ (1 ≤ r.2.2.1 ∧ r.2.2.1 ≤ b.2.2.2.1) ∧ MailOK r.2.2.2) := get_all hr
      rw [tr_congr e]
      by_cases c1 : 1 ≤ r.1 ∧ r.1 ≤ b.2.2.1 - 1
      · rw [nite_tr _ _ c1]
        by_cases c2 : FlagsOK r.2.1
        · by_cases c3 : 1 ≤ r.2.2.1 ∧ r.2.2.1 ≤ b.2.2.2.1
          · by_cases c4 : MailOK r.2.2.2
            · simp only [nite_tr _ _ c2, nite_tr _ _ c3, nite_tr _ _ c4]
              by_cases h0 : 0 < i
              · obtain ⟨p, hp, _⟩ := prev_get hi h0
                rw [ite_tr _ _ (by omega), pred64 h0 (by omega), idxO_nat hp]
                by_cases c5 : r.1 ≤ p.1
                · rw [ite_tr _ _ c5, ite_ntr _ _ fun h => by have := h.2.1 h0 p hp; omega]
                · rw [ite_ntr _ _ c5, ite_tr _ _ ⟨c1, fun _ q hq => by rw [hp] at hq; cases hq; omega, c2, c3, c4⟩]
              · rw [ite_ntr _ _ (by omega), ite_tr _ _ ⟨c1, fun h => absurd h h0, c2, c3, c4⟩]
            · simp only [nite_tr _ _ c2, nite_tr _ _ c3, nite_ntr _ _ c4]
              rw [ite_ntr (p := _ ∧ _) _ _ fun h => c4 h.2.2.2.2]
              by_cases h0 : 0 < i
              · obtain ⟨p, hp, _⟩ := prev_get hi h0
                rw [ite_tr _ _ (by omega), pred64 h0 (by omega), idxO_nat hp]
                split <;> rfl
              · rw [ite_ntr _ _ (by omega)]
          · simp only [nite_tr _ _ c2, nite_ntr _ _ c3]
            rw [ite_ntr (p := _ ∧ _) _ _ fun h => c3 h.2.2.2.1]
            by_cases h0 : 0 < i
            · obtain ⟨p, hp, _⟩ := prev_get hi h0
              rw [ite_tr _ _ (by omega), pred64 h0 (by omega), idxO_nat hp]
              split <;> rfl
            · rw [ite_ntr _ _ (by omega)]
        · simp only [nite_ntr _ _ c2]
          rw [ite_ntr (p := _ ∧ _) _ _ fun h => c2 h.2.2.1]
          by_cases h0 : 0 < i
          · obtain ⟨p, hp, _⟩ := prev_get hi h0
            rw [ite_tr _ _ (by omega), pred64 h0 (by omega), idxO_nat hp]
            split <;> rfl
          · rw [ite_ntr _ _ (by omega)]
      · rw [nite_ntr _ _ c1, ite_ntr _ _ fun h => c1 h.1]
    exact ⟨fun h => by rw [key, tr_yes h]; rfl, fun h => by rw [key, tr_no h]; rfl⟩
  · rw [impl_mailsOk_L1_eq]; unfold impl_mailsOk_L1_B
    rw [if_neg (by simp), tr_dec]
    exact some_tr (by omega)
def AheadOK (b : Box) (i : Nat) (r : Int × Int) : Prop := 0 < i → ∀ p, b.2.2.2.2.2.1[i - 1]? = some p → p.2 < r.2 ∨ (p.2 = r.2 ∧ p.1 < r.1)
theorem ahead_spec {b : Box} {i : Nat} {r : Int × Int} (hi : i < b.2.2.2.2.2.1.length) (hl : b.2.2.2.2.2.1.length < 1073741824) {β : Type} (N : Option β) (F : Option β) :
    (if decide ((0 : Int) < (i : Int)) = true then
      idxO b.2.2.2.2.2.1 (w64 ((i : Int) - 1)) fun r4 => if decide (r.2 < r4.2) = true then F else
      idxO b.2.2.2.2.2.1 (w64 ((i : Int) - 1)) fun r5 => if decide (r5.2 = r.2) = true then
        idxO b.2.2.2.2.2.1 (w64 ((i : Int) - 1)) fun r6 => if decide (r.1 ≤ r6.1) = true then F else N
      else N
    else N) = if tr (AheadOK b i r) = true then N else F := by
  simp only [tr_dec]
  by_cases h0 : 0 < i
  · obtain ⟨p, hp, _⟩ := prev_get hi h0
    rw [ite_tr _ _ (by omega), pred64 h0 (by omega), idxO_nat hp, idxO_nat hp, idxO_nat hp]
    have e : AheadOK b i r ↔ (p.2 < r.2 ∨ (p.2 = r.2 ∧ p.1 < r.1)) := ⟨fun h => h h0 p hp, fun h _ q hq => by rw [hp] at hq; cases hq; exact h⟩
    rw [tr_congr e]
    by_cases c1 : r.2 < p.2
    · rw [ite_tr _ _ c1, ite_ntr _ _ (by omega)]
    · rw [ite_ntr _ _ c1]
      by_cases c2 : p.2 = r.2
      · rw [ite_tr _ _ c2]
        by_cases c3 : r.1 ≤ p.1
        · rw [ite_tr _ _ c3, ite_ntr _ _ (by omega)]
        · rw [ite_ntr _ _ c3, ite_tr _ _ (by omega)]
      · rw [ite_ntr _ _ c2, ite_tr _ _ (by omega)]
  · rw [ite_ntr _ _ (by omega)]
    exact (ite_tr _ _ (show AheadOK b i r from fun h => absurd h h0)).symm
theorem tombAt_iff {b : Box} {i : Nat} {r : Int × Int} (hr : b.2.2.2.2.2.1[i]? = some r) : TombAtOK b i ↔ ((1 ≤ r.1 ∧ r.1 ≤ b.2.2.1 - 1) ∧ (b.2.2.2.2.2.2 < r.2 ∧ r.2 ≤ b.2.2.2.1) ∧ (∀ k, k < b.2.2.2.2.1.length → ∀ m, b.2.2.2.2.1[k]? = some m → m.1 ≠ r.1) ∧
  (∀ k, k < i → ∀ x, b.2.2.2.2.2.1[k]? = some x → x.1 ≠ r.1) ∧ AheadOK b i r) := get_all hr
theorem specBox_tombs {b : Box} (hs : BoxSmall b) (hnx : 1 ≤ b.2.2.1 ∧ b.2.2.1 ≤ 9999) :
    spec_BoxOk_L2 b 0 = some (tr (∀ i, i < b.2.2.2.2.2.1.length → TombAtOK b i)) := by
  have h := loop_chk (L := spec_BoxOk_L2 b) (TombAtOK b) (n := b.2.2.2.2.2.1.length) (E := True) (by have := hs.tombs; omega) (fun i hi hc => ?_) (fun hc => ?_)
  · rw [h]; exact some_tr ⟨fun h => h.1, fun h => ⟨h, trivial⟩⟩
  · obtain ⟨r, hr⟩ := get_of hi
    have hlen := hs.tombs
    have hnx' : w64 (b.2.2.1 - 1) = b.2.2.1 - 1 := w64_id (by omega) (by omega)
    have inner := loop_chk2 (L := spec_BoxOk_L3 b (i : Int) (spec_BoxOk_L2 b) r) (fun k => ∀ x, b.2.2.2.2.2.1[k]? = some x → x.1 ≠ r.1) (n := i) (C := if tr (AheadOK b i r) = true then spec_BoxOk_L2 b (w64 ((i : Int) + 1)) else some false) (F := some false) (by omega) (fun k hk hck => by
        obtain ⟨x, hx⟩ := get_of (l := b.2.2.2.2.2.1) (i := k) (by omega)
        refine ⟨fun h => ?_, fun h => ?_⟩
        · have h1 := h x hx
          conv => lhs; rw [spec_BoxOk_L3_eq]; unfold spec_BoxOk_L3_B
          rw [dlt hk, if_pos rfl, idxO_nat hx, if_neg (by simpa using h1)]
        · have h1 : x.1 = r.1 := Classical.byContradiction fun h' => h fun y hy => by rw [hx] at hy; cases hy; exact h'
          rw [spec_BoxOk_L3_eq]; unfold spec_BoxOk_L3_B
          rw [dlt hk, if_pos rfl, idxO_nat hx, if_pos (by simpa using h1)]) (fun hck => by
        rw [spec_BoxOk_L3_eq]; unfold spec_BoxOk_L3_B
        rw [if_neg (by simp)]
        exact ahead_spec hi hlen _ _)
    have key : spec_BoxOk_L2 b (i : Int) = if tr (TombAtOK b i) = true then spec_BoxOk_L2 b (w64 ((i : Int) + 1)) else some false := by
      conv => lhs; rw [spec_BoxOk_L2_eq]; unfold spec_BoxOk_L2_B
      rw [dlt hi, if_pos rfl, idxO_nat hr, hnx', l01In_eq]
      simp only [Option.bind_some, hasMail_eq b r.1 hs.mails, tr_dec]
      rw [tr_congr (tombAt_iff hr)]
      by_cases c1 : 1 ≤ r.1 ∧ r.1 ≤ b.2.2.1 - 1
      · rw [nite_tr _ _ c1]
        by_cases c2 : r.2 ≤ b.2.2.2.2.2.2
        · rw [ite_tr _ _ c2, ite_ntr _ _ fun h => by have := h.2.1.1; omega]
        · rw [ite_ntr _ _ c2]
          by_cases c3 : b.2.2.2.1 < r.2
          · rw [ite_tr _ _ c3, ite_ntr _ _ fun h => by have := h.2.1.2; omega]
          · rw [ite_ntr _ _ c3]
            by_cases c4 : ∀ k, k < b.2.2.2.2.1.length → ∀ m, b.2.2.2.2.1[k]? = some m → m.1 ≠ r.1
            · rw [nite_tr _ _ c4]
              by_cases c5 : ∀ k, k < i → ∀ x, b.2.2.2.2.2.1[k]? = some x → x.1 ≠ r.1
              · rw [inner.1 c5]
                by_cases c6 : AheadOK b i r
                · rw [ite_tr _ _ c6, ite_tr _ _ ⟨c1, ⟨by omega, by omega⟩, c4, c5, c6⟩]
                · rw [ite_ntr _ _ c6, ite_ntr _ _ fun h => c6 h.2.2.2.2]
              · rw [inner.2 c5, ite_ntr _ _ fun h => c5 h.2.2.2.1]
            · rw [nite_ntr _ _ c4, ite_ntr _ _ fun h => c4 h.2.2.1]
      · rw [nite_ntr _ _ c1, ite_ntr _ _ fun h => c1 h.1]
    exact ⟨fun h => by rw [key, tr_yes h]; rfl, fun h => by rw [key, tr_no h]; rfl⟩
  · rw [spec_BoxOk_L2_eq]; unfold spec_BoxOk_L2_B
    rw [if_neg (by simp), tr_yes trivial]
theorem specBoxOk_eq {b : Box} (hs : BoxSmall b) : spec_BoxOk b = some (tr (BoxOK b)) := by
  unfold spec_BoxOk
  have h1 := hs.name
  simp only [specName_eq (s := b.1) (by omega), l01In_eq, Option.bind_some, tr_dec]
  by_cases c1 : NameOK b.1
  · rw [nite_tr _ _ c1]
    by_cases c2 : 1 ≤ b.2.1 ∧ b.2.1 ≤ 9999
    · rw [nite_tr _ _ c2]
      by_cases c3 : 1 ≤ b.2.2.1 ∧ b.2.2.1 ≤ 9999
      · rw [nite_tr _ _ c3]
        by_cases c4 : 1 ≤ b.2.2.2.1 ∧ b.2.2.2.1 ≤ 100000
        · rw [nite_tr _ _ c4]
          by_cases c5 : b.2.2.2.2.1.length ≤ 30
          · rw [ite_ntr _ _ (by omega)]
            by_cases c6 : b.2.2.2.2.2.1.length ≤ 40
            · rw [ite_ntr _ _ (by omega)]
              by_cases c7 : 0 ≤ b.2.2.2.2.2.2 ∧ b.2.2.2.2.2.2 ≤ b.2.2.2.1
              · rw [nite_tr _ _ c7]
                obtain ⟨m1, m2⟩ := specBox_mails hs c3
                by_cases c8 : ∀ i, i < b.2.2.2.2.1.length → MailAtOK b i
                · rw [m1 c8, specBox_tombs hs c3]
                  exact some_tr ⟨fun h => ⟨c1, c2, c3, c4, c7, c5, c6, c8, h⟩, fun h => h.2.2.2.2.2.2.2.2⟩
                · rw [m2 c8, tr_no fun h => c8 h.2.2.2.2.2.2.2.1]
              · rw [nite_ntr _ _ c7, tr_no fun h => c7 h.2.2.2.2.1]
            · rw [ite_tr _ _ (by omega), tr_no fun h => c6 h.2.2.2.2.2.2.1]
          · rw [ite_tr _ _ (by omega), tr_no fun h => c5 h.2.2.2.2.2.1]
        · rw [nite_ntr _ _ c4, tr_no fun h => c4 h.2.2.2.1]
      · rw [nite_ntr _ _ c3, tr_no fun h => c3 h.2.2.1]
    · rw [nite_ntr _ _ c2, tr_no fun h => c2 h.2.1]
  · rw [nite_ntr _ _ c1, tr_no fun h => c1 h.1]
theorem mailAt_eq (b : Box) (u : Int) (hl : b.2.2.2.2.1.length < 1073741824) : impl_mailAt b u = some (idxF (fun m => decide (m.1 = u)) b.2.2.2.2.1 0) := by
  unfold impl_mailAt
  rw [indexMail (f := fun e t => impl_mailAt_c1 e u = some t) (q := fun m => decide (m.1 = u)) (fun x _ => predO_fn (impl_mailAt_c1 x u)) (by omega)]; rfl
theorem mailAt_neg (l : List Mail) (u : Int) : (0 ≤ idxF (fun m : Mail => decide (m.1 = u)) l 0) ↔ ¬ (∀ k, k < l.length → ∀ m, l[k]? = some m → m.1 ≠ u) := by
  have h := idxF_neg (fun m : Mail => decide (m.1 = u)) l 0
  constructor
  · intro h1 h2
    have := h.2 fun x hx => by
      obtain ⟨k, hk⟩ := List.getElem?_of_mem hx
      simpa using h2 k (List.getElem?_eq_some_iff.1 hk).1 x hk
    omega
  · intro h1
    refine Classical.byContradiction fun h2 => h1 fun k hk m hm => ?_
    have := h.1 (by omega) m (List.mem_of_getElem? hm)
    simpa using this
theorem mailAt_tr (l : List Mail) (u : Int) : decide (0 ≤ idxF (fun m : Mail => decide (m.1 = u)) l 0) = !tr (∀ k, k < l.length → ∀ m, l[k]? = some m → m.1 ≠ u) := by
  by_cases c : ∀ k, k < l.length → ∀ m, l[k]? = some m → m.1 ≠ u
  · rw [tr_yes c]; exact decide_eq_false fun h => (mailAt_neg l u).1 h c
  · rw [tr_no c]; exact decide_eq_true ((mailAt_neg l u).2 c)
theorem implBox_tombs {b : Box} (hs : BoxSmall b) (hnx : 1 ≤ b.2.2.1 ∧ b.2.2.1 ≤ 9999) (hhz : 0 ≤ b.2.2.2.2.2.2 ∧ b.2.2.2.2.2.2 ≤ 100000) :
    impl_tombsOk b = some (tr ((∀ i, i < b.2.2.2.2.2.1.length → TombAtOK b i) ∧ b.2.2.2.2.2.1.length ≤ 40)) := by
  unfold impl_tombsOk
  refine loop_chk (TombAtOK b) (by have := hs.tombs; omega) (fun i hi hc => ?_) (fun hc => ?_)
  · obtain ⟨r, hr⟩ := get_of hi
    have hlen := hs.tombs
    have hnx' : w64 (b.2.2.1 - 1) = b.2.2.1 - 1 := w64_id (by omega) (by omega)
    have hhz' : w64 (b.2.2.2.2.2.2 + 1) = b.2.2.2.2.2.2 + 1 := w64_id (by omega) (by omega)
    have key : impl_tombsOk_L1 b (i : Int) = if tr (TombAtOK b i) = true then impl_tombsOk_L1 b (w64 ((i : Int) + 1)) else some false := by
      conv => lhs; rw [impl_tombsOk_L1_eq]; unfold impl_tombsOk_L1_B
      rw [dlt hi, if_pos rfl, idxO_nat hr, hnx', hhz', reqO_pos (by omega), Int.toNat_natCast, containsTomb (f := fun e t => impl_tombsOk_c1 e r = some t) (q := fun x => decide (x.1 = r.1)) (fun x _ => predO_fn (impl_tombsOk_c1 x r)) (by rw [List.length_take]; omega)]
      simp only [Option.bind_some, within_eq, mailAt_eq b r.1 hs.mails]
      have e5 : (b.2.2.2.2.2.1.take i).any (fun x => decide (x.1 = r.1)) = !tr (∀ k, k < i → ∀ x, b.2.2.2.2.2.1[k]? = some x → x.1 ≠ r.1) := by
        by_cases c : ∀ k, k < i → ∀ x, b.2.2.2.2.2.1[k]? = some x → x.1 ≠ r.1
        · rw [tr_yes c, Bool.not_true, List.any_eq_false]
          intro x hx
          obtain ⟨k, hk⟩ := List.getElem?_of_mem hx
          rw [List.getElem?_take] at hk
          split at hk
          · rename_i hki; simpa using c k hki x hk
          · cases hk
        · rw [tr_no c, Bool.not_false, List.any_eq_true]
          refine Classical.byContradiction fun hn => c fun k hk x hx h => hn ⟨x, ?_, by simpa using h⟩
          exact List.mem_of_getElem? (i := k) (by rw [List.getElem?_take, if_pos hk]; exact hx)
      rw [e5, mailAt_tr, ahead_spec hi hlen]
      rw [tr_congr (tombAt_iff hr)]
      simp only [tr_dec]
      by_cases c1 : 1 ≤ r.1 ∧ r.1 ≤ b.2.2.1 - 1
      · rw [nite_tr _ _ c1]
        by_cases c2 : b.2.2.2.2.2.2 + 1 ≤ r.2 ∧ r.2 ≤ b.2.2.2.1
        · rw [nite_tr _ _ c2]
          by_cases c5 : ∀ k, k < i → ∀ x, b.2.2.2.2.2.1[k]? = some x → x.1 ≠ r.1
          · rw [nite_tr _ _ c5]
            by_cases c4 : ∀ k, k < b.2.2.2.2.1.length → ∀ m, b.2.2.2.2.1[k]? = some m → m.1 ≠ r.1
            · rw [nite_tr _ _ c4]
              by_cases c6 : AheadOK b i r
              · rw [ite_tr _ _ c6, ite_tr _ _ ⟨c1, ⟨by omega, by omega⟩, c4, c5, c6⟩]
              · rw [ite_ntr _ _ c6, ite_ntr _ _ fun h => c6 h.2.2.2.2]
            · rw [nite_ntr _ _ c4, ite_ntr _ _ fun h => c4 h.2.2.1]
          · rw [nite_ntr _ _ c5, ite_ntr _ _ fun h => c5 h.2.2.2.1]
        · rw [nite_ntr _ _ c2, ite_ntr _ _ fun h => c2 ⟨by have := h.2.1.1; omega, h.2.1.2⟩]
      · rw [nite_ntr _ _ c1, ite_ntr _ _ fun h => c1 h.1]
    exact ⟨fun h => by rw [key, tr_yes h]; rfl, fun h => by rw [key, tr_no h]; rfl⟩
  · rw [impl_tombsOk_L1_eq]; unfold impl_tombsOk_L1_B
    rw [if_neg (by simp), tr_dec]
    exact some_tr (by omega)
theorem implBoxOk_eq {b : Box} (hs : BoxSmall b) : impl_BoxOk b = some (tr (BoxOK b)) := by
  unfold impl_BoxOk
  have h1 := hs.name
  simp only [implName_eq (s := b.1) (by omega), isUid_eq, within_eq, Option.bind_some, tr_dec, ite_self]
  by_cases c2 : 1 ≤ b.2.1 ∧ b.2.1 ≤ 9999
  · rw [ite_tr _ _ c2]
    by_cases c3 : 1 ≤ b.2.2.1 ∧ b.2.2.1 ≤ 9999
    · rw [ite_tr _ _ c3]
      by_cases c4 : 1 ≤ b.2.2.2.1 ∧ b.2.2.2.1 ≤ 100000
      · rw [ite_tr _ _ c4]
        by_cases c1 : NameOK b.1
        · rw [ite_tr _ _ c1]
          by_cases c7 : 0 ≤ b.2.2.2.2.2.2 ∧ b.2.2.2.2.2.2 ≤ b.2.2.2.1
          · rw [ite_tr _ _ c7, implBox_mails hs c3]
            simp only [Option.bind_some]
            by_cases c8 : (∀ i, i < b.2.2.2.2.1.length → MailAtOK b i) ∧ b.2.2.2.2.1.length ≤ 30
            · rw [ite_tr _ _ c8, implBox_tombs hs c3 ⟨c7.1, by omega⟩]
              simp only [Option.bind_some]
              exact some_tr ⟨fun h => ⟨c1, c2, c3, c4, c7, c8.2, h.2, c8.1, h.1⟩, fun h => ⟨h.2.2.2.2.2.2.2.2, h.2.2.2.2.2.2.1⟩⟩
            · rw [ite_ntr _ _ c8, tr_no fun h => c8 ⟨h.2.2.2.2.2.2.2.1, h.2.2.2.2.2.1⟩]
          · rw [ite_ntr _ _ c7, tr_no fun h => c7 h.2.2.2.2.1]
        · rw [ite_ntr _ _ c1, tr_no fun h => c1 h.1]
      · rw [ite_ntr _ _ c4, tr_no fun h => c4 h.2.2.2.1]
    · rw [ite_ntr _ _ c3, tr_no fun h => c3 h.2.2.1]
  · rw [ite_ntr _ _ c2, tr_no fun h => c2 h.2.1]
end Go.M
namespace Go.M
open Go.Ev Go.G
theorem has_cons (r : Int × Int) (l : List (Int × Int)) (n : Int) : has (r :: l) n = (decide (r.1 ≤ n ∧ n ≤ r.2) || has l n) := rfl
theorem has_above {b : Int} {l : List (Int × Int)} (h : Chain b l) {n : Int} (hn : has l n = true) : b < n ∧ n ≤ 9999 := by
  unfold has at hn
  rw [List.any_eq_true] at hn
  obtain ⟨r, hr, hp⟩ := hn
  have := chain_mem h r hr
  rw [decide_eq_true_eq] at hp
  omega
theorem has_first {b : Int} {r : Int × Int} {l : List (Int × Int)} (h : Chain b (r :: l)) : has (r :: l) r.1 = true := by
  rw [has_cons]; simp [h.2.1]
theorem has_gap {b : Int} {r : Int × Int} {l : List (Int × Int)} (h : Chain b (r :: l)) : has (r :: l) (r.2 + 1) = false := by
  rw [has_cons, Bool.or_eq_false_iff]
  refine ⟨by simp; omega, ?_⟩
  cases e : has l (r.2 + 1) with
  | false => rfl
  | true => exact absurd (has_above h.2.2.2 e).1 (by omega)
theorem has_in {r : Int × Int} {l : List (Int × Int)} {n : Int} (h : r.1 ≤ n) (h' : n ≤ r.2) : has (r :: l) n = true := by rw [has_cons]; simp [h, h']
theorem set_unique : ∀ (s t : List (Int × Int)) (b c : Int), Chain b s → Chain c t → (∀ n, has s n = has t n) → s = t
  | [], [], _, _, _, _, _ => rfl
  | [], r :: l, _, _, _, h, e => by have := e r.1; rw [has_first h] at this; simp [has] at this
  | r :: l, [], _, _, h, _, e => by have := e r.1; rw [has_first h] at this; simp [has] at this
  | r :: l, r' :: l', b, c, h, h', e => by
    have h1 : r'.1 ≤ r.1 := by
      have := e r.1; rw [has_first h, eq_comm, has_cons, Bool.or_eq_true] at this
      rcases this with k | k
      · rw [decide_eq_true_eq] at k; omega
      · have := has_above h'.2.2.2 k; have := h'.2.1; omega
    have h2 : r.1 ≤ r'.1 := by
      have := e r'.1; rw [has_first h', has_cons, Bool.or_eq_true] at this
      rcases this with k | k
      · rw [decide_eq_true_eq] at k; omega
      · have := has_above h.2.2.2 k; have := h.2.1; omega
    have h3 : ¬ r.2 < r'.2 := fun k => by
      have := e (r.2 + 1); rw [has_gap h, has_in (by have := h.2.1; omega) (by omega)] at this; cases this
    have h4 : ¬ r'.2 < r.2 := fun k => by
      have := e (r'.2 + 1); rw [has_gap h', has_in (by have := h'.2.1; omega) (by omega)] at this; cases this
    have hr : r = r' := Prod.ext (by omega) (by omega)
    subst hr
    have := set_unique l l' _ _ h.2.2.2 h'.2.2.2 fun n => by
      by_cases hn : r.2 + 1 < n
      · have := e n
        rw [has_cons, has_cons, decide_eq_false (by omega), Bool.false_or, Bool.false_or] at this
        exact this
      · have k1 : has l n = false := by
          cases k : has l n with
          | false => rfl
          | true => exact absurd (has_above h.2.2.2 k).1 hn
        have k2 : has l' n = false := by
          cases k : has l' n with
          | false => rfl
          | true => exact absurd (has_above h'.2.2.2 k).1 hn
        rw [k1, k2]
    rw [this]
def addU (S : List (Int × Int)) (u : Int) : List (Int × Int) :=
  match S.getLast? with
  | some p => if p.2 = u - 1 then S.dropLast ++ [(p.1, u)] else S ++ [(u, u)]
  | none => [(u, u)]
def size : List (Int × Int) → Int
  | [] => 0
  | r :: l => (r.2 - r.1 + 1) + size l
theorem size_append (a b : List (Int × Int)) : size (a ++ b) = size a + size b := by
  induction a with
  | nil => simp [size]
  | cons r l ih => simp only [List.cons_append, size, ih]; omega
theorem chain_before : ∀ {q : List (Int × Int)} {p : Int × Int} {b : Int}, Chain b (q ++ [p]) → ∀ x ∈ q, x.2 + 1 < p.1
  | [], _, _, _, x, hx => by cases hx
  | r :: q, p, b, h, x, hx => by
    rw [List.cons_append] at h
    rcases List.mem_cons.1 hx with e | hx
    · subst e
      have := chain_mem h.2.2.2 p (by simp)
      omega
    · exact chain_before h.2.2.2 x hx
theorem addU_snoc (q : List (Int × Int)) (p : Int × Int) (u : Int) : addU (q ++ [p]) u = if p.2 = u - 1 then q ++ [(p.1, u)] else q ++ [p] ++ [(u, u)] := by
  unfold addU; simp
theorem snoc_cases {α : Type} (l : List α) : l = [] ∨ ∃ q p, l = q ++ [p] := by
  rcases List.eq_nil_or_concat l with h | ⟨q, p, h⟩
  · exact .inl h
  · exact .inr ⟨q, p, by rw [h]; simp⟩
theorem has_one (p : Int × Int) (n : Int) : has [p] n = decide (p.1 ≤ n ∧ n ≤ p.2) := by simp [has]
structure AddU (S : List (Int × Int)) (u : Int) : Prop where
  chain : Chain 0 (addU S u)
  top : ∀ r ∈ addU S u, r.2 ≤ u
  has : ∀ n, has (addU S u) n = (has S n || decide (n = u))
  size : size (addU S u) = size S + 1
  len : (addU S u).length ≤ S.length + 1
theorem addU_ok {S : List (Int × Int)} {u : Int} (hc : Chain 0 S) (ht : ∀ r ∈ S, r.2 < u) (h1 : 1 ≤ u) (h2 : u ≤ 9999) : AddU S u := by
  rcases snoc_cases S with e | ⟨q, p, e⟩
  · subst e
    exact ⟨⟨by show (0 : Int) < u; omega, by show u ≤ u; omega, h2, trivial⟩, fun r hr => by simp [addU] at hr; subst hr; show u ≤ u; omega,
      fun n => by
        show has [(u, u)] n = (has [] n || decide (n = u))
        rw [has_one]
        simp only [has, List.any_nil, Bool.false_or, decide_eq_decide]; omega,
      by simp [addU, size], by simp [addU]⟩
  · subst e
    have hp := chain_mem hc p (by simp)
    have hq := chain_before hc
    have hpu := ht p (by simp)
    by_cases k : p.2 = u - 1
    · have e : addU (q ++ [p]) u = q ++ [(p.1, u)] := by rw [addU_snoc, if_pos k]
      refine ⟨?_, ?_, fun n => ?_, ?_, ?_⟩
      · rw [e]; exact chain_set_last (lo := p.1) (hi := p.2) hc (by omega) h2
      · rw [e]
        intro r hr
        rcases List.mem_append.1 hr with h | h
        · have := ht r (by simp [h]); omega
        · simp at h; subst h; exact Int.le_refl _
      · rw [e, has_append, has_append, has_one, has_one, Bool.or_assoc]
        congr 1
        rw [Bool.eq_iff_iff, Bool.or_eq_true, decide_eq_true_eq, decide_eq_true_eq, decide_eq_true_eq]
        show (p.1 ≤ n ∧ n ≤ u) ↔ _
        omega
      · rw [e, size_append, size_append]; simp only [size]; omega
      · rw [e]; simp
    · have e : addU (q ++ [p]) u = q ++ [p] ++ [(u, u)] := by rw [addU_snoc, if_neg k]
      refine ⟨?_, ?_, fun n => ?_, ?_, ?_⟩
      · rw [e]
        refine chain_snoc hc (fun x hx => ?_) (by show (0 : Int) < u; omega) (Int.le_refl _) h2
        show x.2 + 1 < u
        rcases List.mem_append.1 hx with h | h
        · have := hq x h; omega
        · simp at h; subst h; omega
      · rw [e]
        intro r hr
        rcases List.mem_append.1 hr with h | h
        · have := ht r h; omega
        · simp at h; subst h; exact Int.le_refl _
      · rw [e, has_append (q ++ [p]), has_one]
        congr 1
        rw [decide_eq_decide]; show (u ≤ n ∧ n ≤ u) ↔ _; omega
      · rw [e, size_append (q ++ [p])]; simp only [size]; omega
      · rw [e]; simp
theorem has_zero {S : List (Int × Int)} (hc : Chain 0 S) {n : Int} (hn : n ≤ 0 ∨ 9999 < n) : has S n = false := by
  cases e : has S n with
  | false => rfl
  | true => have := has_above hc e; omega
theorem put_one {S : List (Int × Int)} {u : Int} (h : SetOK S) (hl : S.length < 40) (ht : ∀ r ∈ S, r.2 < u) (h1 : 1 ≤ u) (h2 : u ≤ 9999) : put S u u true = (addU S u, true) := by
  have a := addU_ok h.1 ht h1 h2
  have h0 := putP_zero (hi := u) (to := true) h h1
  have hr := runs_chain h0 9999 (by omega)
  have e : runs (putP S u u true) 9999 = addU S u := by
    refine set_unique _ _ 0 0 hr a.chain fun n => ?_
    by_cases hn : 0 ≤ n
    · obtain ⟨m, rfl⟩ := Int.eq_ofNat_of_zero_le hn
      have := (runs_spec h0 9999).2.1 m
      rw [this, a.has]
      unfold putP
      by_cases hm : m ≤ 9999
      · rw [decide_eq_true hm, Bool.true_and]
        by_cases hu : (m : Int) = u
        · rw [if_pos (by omega), decide_eq_true hu, Bool.or_true]
        · rw [if_neg (by omega), decide_eq_false hu, Bool.or_false]
      · rw [decide_eq_false hm, Bool.false_and, has_zero h.1 (.inr (by omega)), decide_eq_false (by omega)]; rfl
    · rw [has_zero hr (.inl (by omega)), a.has, has_zero h.1 (.inl (by omega)), decide_eq_false (by omega)]; rfl
  unfold put
  rw [if_pos, e]
  exact ⟨h, h1, Int.le_refl _, h2, by rw [e]; exact ⟨a.chain, by have := a.len; omega⟩⟩
def setOf (l : List Int) : List (Int × Int) := l.foldl addU []
def Grow (l : List Int) : Prop := l.Pairwise (· < ·) ∧ ∀ u ∈ l, 1 ≤ u ∧ u ≤ 9999
theorem setOf_snoc (l : List Int) (u : Int) : setOf (l ++ [u]) = addU (setOf l) u := by unfold setOf; rw [List.foldl_append]; rfl
structure SetOf (l : List Int) : Prop where
  chain : Chain 0 (setOf l)
  has : ∀ n, has (setOf l) n = decide (n ∈ l)
  top : ∀ r ∈ setOf l, r.2 ∈ l
  size : size (setOf l) = l.length
  len : (setOf l).length ≤ l.length
theorem grow_snoc {l : List Int} {u : Int} (h : Grow (l ++ [u])) : Grow l ∧ (∀ x ∈ l, x < u) ∧ 1 ≤ u ∧ u ≤ 9999 := by
  obtain ⟨h1, h2⟩ := h
  rw [List.pairwise_append] at h1
  exact ⟨⟨h1.1, fun x hx => h2 x (by simp [hx])⟩, fun x hx => h1.2.2 x hx u (by simp), h2 u (by simp)⟩
theorem setOf_ok : ∀ (k : Nat) (l : List Int), l.length = k → Grow l → SetOf l
  | 0, l, e, _ => by
    have : l = [] := List.eq_nil_of_length_eq_zero e
    subst this
    exact ⟨trivial, fun n => by simp [setOf, has], fun r hr => by simp [setOf] at hr, rfl, by simp [setOf]⟩
  | k + 1, l, e, h => by
    rcases snoc_cases l with e' | ⟨q, u, e'⟩
    · subst e'; simp at e
    · subst e'
      obtain ⟨hg, ht, h1, h2⟩ := grow_snoc h
      have ih := setOf_ok k q (by simp at e; omega) hg
      have a := addU_ok (u := u) ih.chain (fun r hr => ht _ (ih.top r hr)) h1 h2
      refine ⟨?_, ?_, ?_, ?_, ?_⟩ <;> rw [setOf_snoc]
      · exact a.chain
      · intro n
        rw [a.has, ih.has, Bool.eq_iff_iff, Bool.or_eq_true, decide_eq_true_eq, decide_eq_true_eq, decide_eq_true_eq]
        simp
      · intro r hr
        rw [List.mem_append]
        have key : r.2 = u ∨ r ∈ setOf q := by
          rcases snoc_cases (setOf q) with e1 | ⟨q', p, e1⟩
          · rw [e1] at hr; simp [addU] at hr; left; rw [hr]
          · rw [e1, addU_snoc] at hr
            split at hr
            · rcases List.mem_append.1 hr with h | h
              · right; rw [e1]; simp [h]
              · simp at h; left; rw [h]
            · rcases List.mem_append.1 hr with h | h
              · right; rw [e1]; exact h
              · simp at h; left; rw [h]
        rcases key with h | h
        · right; simp [h]
        · left; exact ih.top r h
      · rw [a.size, ih.size]; simp
      · have := a.len; have := ih.len; simp; omega
theorem setOf_grow {l : List Int} (h : Grow l) : SetOf l := setOf_ok _ l rfl h
theorem setAdd_setOf {l : List Int} {u : Int} (h : Grow (l ++ [u])) (hl : l.length < 40) : spec_SetAdd (setOf l) u u = some (setOf (l ++ [u]), true) := by
  obtain ⟨hg, ht, h1, h2⟩ := grow_snoc h
  have a := setOf_grow hg
  have := a.len
  rw [setAdd_eq _ _ (by omega), put_one ⟨a.chain, by omega⟩ (by omega) (fun r hr => ht _ (a.top r hr)) h1 h2, setOf_snoc]
theorem specSize_at : ∀ (l pre : List (Int × Int)) (v : Int), Chain 0 l → pre.length + l.length < 1000000 → 0 ≤ v → v ≤ 10000 * pre.length →
    spec_SetSize_L1 (pre ++ l) (v, (pre.length : Int)) = some (v + size l)
  | [], pre, v, _, _, _, _ => by rw [spec_SetSize_L1_eq]; unfold spec_SetSize_L1_B; simp [size]
  | r :: l, pre, v, h, hl, h0, hv => by
    simp only [List.length_cons] at hl
    have hr := chain_mem h r (by simp)
    have ih := specSize_at l (pre ++ [r]) (v + (r.2 - r.1 + 1)) (chain_tail h.2.2.2 (by omega)) (by simp; omega) (by omega) (by simp; omega)
    rw [spec_SetSize_L1_eq]; unfold spec_SetSize_L1_B
    simp only [lt_mid, if_true, idx_mid, size]
    rw [next_mid (by omega), mid_assoc, w64_id, w64_id, w64_id]
    · rw [show v + r.2 - r.1 + 1 = v + (r.2 - r.1 + 1) by omega, ih]; congr 1; omega
    all_goals (try rw [w64_id]) <;> (try rw [w64_id]) <;> omega
theorem specSize_eq {s : List (Int × Int)} (h : SetOK s) : spec_SetSize s = some (size s) := by
  have hl := h.2
  unfold spec_SetSize
  rw [specSetOk_eq (by omega)]
  simp only [Option.bind_some, decide_eq_true h]
  have := specSize_at s [] 0 h.1 (by simp; omega) (by omega) (by simp)
  simpa using this
end Go.M
namespace Go.M
open Go.Ev Go.G
theorem BoxOK.small {b : Box} (h : BoxOK b) : BoxSmall b := by
  obtain ⟨h1, _, _, _, _, h2, h3, h4, _⟩ := h
  refine ⟨by have := h1.2; omega, by omega, by omega, fun m hm => ?_⟩
  obtain ⟨i, hi, e⟩ := List.mem_iff_getElem.1 hm
  have := (h4 i hi m (by rw [List.getElem?_eq_getElem hi, e])).2.2.2.2.2
  omega
theorem l08Copy_eq {b : Box} (h : BoxSmall b) : spec_l08Copy b = some b := by
  have h1 := h.mails
  have h2 := h.tombs
  unfold spec_l08Copy
  rw [reqO_pos (by simp [bound]; omega), reqO_pos (by simp [bound]; omega)]; simp
theorem copyBox_eq {b : Box} (h : BoxSmall b) : impl_copyBox b = some b := l08Copy_eq h
structure StoreSmall (s : List Box × Int) : Prop where
  len : s.1.length < 1073741824
  box : ∀ b ∈ s.1, BoxSmall b
theorem copy_at {s : List Box × Int} (hs : StoreSmall s) {C : Box → Option Box} (hC : ∀ b, BoxSmall b → C b = some b) {L : Int × (List Box × Int) → Option (List Box × Int)}
    (hL : ∀ v, L v = if decide (v.1 < (s.1.length : Int)) = true then idxO s.1 v.1 fun r => (C r).bind fun y => reqO (v.2.1.length + [y].length ≤ bound) <| L ((w64 (v.1 + (1 : Int))), ((v.2.1 ++ [y]), v.2.2)) else some v.2) :
    ∀ (l pre : List Box), s.1 = pre ++ l → L ((pre.length : Int), (pre, s.2)) = some s
  | [], pre, h => by rw [hL, if_neg (by rw [h]; simp)]; simp only [List.append_nil] at h; rw [← h]
  | r :: l, pre, h => by
    have hlen := hs.len
    rw [hL]
    have hp : pre.length < s.1.length := by rw [h]; simp
    rw [dlt hp, if_pos rfl, idxO_nat (r := r) (by rw [h]; simp), hC r (hs.box r (by rw [h]; simp))]
    simp only [Option.bind_some]
    rw [reqO_pos (by simp [bound]; omega), show w64 ((pre.length : Int) + 1) = ((pre ++ [r]).length : Int) by rw [w64_id (by omega) (by omega)]; simp]
    exact copy_at hs hC hL l (pre ++ [r]) (by rw [h]; simp)
theorem l09Copy_eq {s : List Box × Int} (hs : StoreSmall s) : spec_l09Copy s = some s := by
  have := copy_at hs (C := spec_l08Copy) (fun b h => l08Copy_eq h) (L := spec_l09Copy_L1 s) (fun v => by rw [spec_l09Copy_L1_eq]; rfl) s.1 [] rfl
  exact this
theorem copyStore_eq {s : List Box × Int} (hs : StoreSmall s) : impl_copyStore s = some s := by
  have := copy_at hs (C := impl_copyBox) (fun b h => copyBox_eq h) (L := impl_copyStore_L1 s) (fun v => by rw [impl_copyStore_L1_eq]; rfl) s.1 [] rfl
  exact this
def BoxAtOK (s : List Box × Int) (i : Nat) : Prop := ∀ r, s.1[i]? = some r → BoxOK r ∧ (0 < i → ∀ p, s.1[i - 1]? = some p → Op.bytesLess p.1 r.1 = true) ∧ r.2.1 < s.2
def StoreOK (s : List Box × Int) : Prop := (∀ i, i < s.1.length → BoxAtOK s i) ∧ (1 ≤ s.1.length ∧ s.1.length ≤ 4) ∧ (2 ≤ s.2 ∧ s.2 ≤ 9999)
theorem StoreOK.box {s : List Box × Int} (h : StoreOK s) : ∀ b ∈ s.1, BoxOK b := fun b hb => by
  obtain ⟨i, hi, e⟩ := List.mem_iff_getElem.1 hb
  exact (h.1 i hi b (by rw [List.getElem?_eq_getElem hi, e])).1
theorem StoreOK.small {s : List Box × Int} (h : StoreOK s) : StoreSmall s := ⟨by have := h.2.1; omega, fun b hb => (h.box b hb).small⟩
theorem store_end (s : List Box × Int) {W : Int → Int → Int → Option Bool} (hW : ∀ n lo hi, W n lo hi = some (decide (lo ≤ n ∧ n ≤ hi))) :
    ((W (s.1.length : Int) (1 : Int) (4 : Int)).bind fun t1 => if t1 = true then (W s.2 (2 : Int) (9999 : Int)).bind fun t2 => some t2 else some false) = some (tr ((1 ≤ s.1.length ∧ s.1.length ≤ 4) ∧ (2 ≤ s.2 ∧ s.2 ≤ 9999))) := by
  rw [hW, hW]
  simp only [Option.bind_some]
  by_cases h1 : 1 ≤ s.1.length ∧ s.1.length ≤ 4
  · rw [decide_eq_true (by omega), if_pos rfl, tr_dec]; exact some_tr ⟨fun h => ⟨h1, h⟩, fun h => h.2⟩
  · rw [decide_eq_false (by omega), if_neg (by simp), tr_no fun h => h1 h.1]
theorem specStoreOk_eq {s : List Box × Int} (hs : StoreSmall s) : spec_StoreOk s = some (tr (StoreOK s)) := by
  unfold spec_StoreOk
  have hlen := hs.len
  refine loop_chk (BoxAtOK s) (by omega) (fun i hi hc => ?_) (fun hc => ?_)
  · obtain ⟨r, hr⟩ := get_of hi
    have hb := hs.box r (List.mem_of_getElem? hr)
    have e : BoxAtOK s i ↔ (BoxOK r ∧ (0 < i → ∀ p, s.1[i - 1]? = some p → Op.bytesLess p.1 r.1 = true) ∧ r.2.1 < s.2) := get_all hr
    have key : spec_StoreOk_L1 s (i : Int) = if tr (BoxAtOK s i) = true then spec_StoreOk_L1 s (w64 ((i : Int) + 1)) else some false := by
      conv => lhs; rw [spec_StoreOk_L1_eq]; unfold spec_StoreOk_L1_B
      rw [dlt hi, if_pos rfl, idxO_nat hr, specBoxOk_eq hb, tr_congr e]
      simp only [Option.bind_some, tr_dec, idxO_nat hr]
      by_cases c1 : BoxOK r
      · rw [nite_tr _ _ c1]
        by_cases h0 : 0 < i
        · obtain ⟨p, hp, _⟩ := prev_get hi h0
          rw [ite_tr _ _ (by omega), pred64 h0 (by omega), idxO_nat hp]
          by_cases c2 : Op.bytesLess p.1 r.1 = true
          · rw [c2, if_neg (by simp)]
            by_cases c3 : s.2 ≤ r.2.1
            · rw [ite_tr _ _ c3, ite_ntr _ _ fun h => by have := h.2.2; omega]
            · rw [ite_ntr _ _ c3, ite_tr _ _ ⟨c1, fun _ q hq => by rw [hp] at hq; cases hq; exact c2, by omega⟩]
          · rw [if_pos (by simpa using c2), ite_ntr _ _ fun h => c2 (h.2.1 h0 p hp)]
        · rw [ite_ntr _ _ (by omega)]
          by_cases c3 : s.2 ≤ r.2.1
          · rw [ite_tr _ _ c3, ite_ntr _ _ fun h => by have := h.2.2; omega]
          · rw [ite_ntr _ _ c3, ite_tr _ _ ⟨c1, fun h => absurd h h0, by omega⟩]
      · rw [nite_ntr _ _ c1, ite_ntr _ _ fun h => c1 h.1]
    exact ⟨fun h => by rw [key, tr_yes h]; rfl, fun h => by rw [key, tr_no h]; rfl⟩
  · rw [spec_StoreOk_L1_eq]; unfold spec_StoreOk_L1_B
    rw [if_neg (by simp)]
    exact store_end s l01In_eq
theorem implStoreOk_eq {s : List Box × Int} (hs : StoreSmall s) : impl_StoreOk s = some (tr (StoreOK s)) := by
  unfold impl_StoreOk
  have hlen := hs.len
  refine loop_chk (BoxAtOK s) (by omega) (fun i hi hc => ?_) (fun hc => ?_)
  · obtain ⟨r, hr⟩ := get_of hi
    have hb := hs.box r (List.mem_of_getElem? hr)
    have e : BoxAtOK s i ↔ (BoxOK r ∧ (0 < i → ∀ p, s.1[i - 1]? = some p → Op.bytesLess p.1 r.1 = true) ∧ r.2.1 < s.2) := get_all hr
    have key : impl_StoreOk_L1 s (i : Int) = if tr (BoxAtOK s i) = true then impl_StoreOk_L1 s (w64 ((i : Int) + 1)) else some false := by
      conv => lhs; rw [impl_StoreOk_L1_eq]; unfold impl_StoreOk_L1_B
      rw [dlt hi, if_pos rfl, idxO_nat hr, implBoxOk_eq hb, tr_congr e]
      simp only [Option.bind_some, tr_dec]
      by_cases c1 : BoxOK r
      · rw [nite_tr _ _ c1]
        by_cases h0 : 0 < i
        · obtain ⟨p, hp, _⟩ := prev_get hi h0
          rw [ite_tr _ _ (by omega), pred64 h0 (by omega), idxO_nat hp]
          by_cases c2 : Op.bytesLess p.1 r.1 = true
          · rw [c2, if_neg (by simp)]
            by_cases c3 : s.2 ≤ r.2.1
            · rw [ite_tr _ _ c3, ite_ntr _ _ fun h => by have := h.2.2; omega]
            · rw [ite_ntr _ _ c3, ite_tr _ _ ⟨c1, fun _ q hq => by rw [hp] at hq; cases hq; exact c2, by omega⟩]
          · rw [if_pos (by simpa using c2), ite_ntr _ _ fun h => c2 (h.2.1 h0 p hp)]
        · rw [ite_ntr _ _ (by omega)]
          by_cases c3 : s.2 ≤ r.2.1
          · rw [ite_tr _ _ c3, ite_ntr _ _ fun h => by have := h.2.2; omega]
          · rw [ite_ntr _ _ c3, ite_tr _ _ ⟨c1, fun h => absurd h h0, by omega⟩]
      · rw [nite_ntr _ _ c1, ite_ntr _ _ fun h => c1 h.1]
    exact ⟨fun h => by rw [key, tr_yes h]; rfl, fun h => by rw [key, tr_no h]; rfl⟩
  · rw [impl_StoreOk_L1_eq]; unfold impl_StoreOk_L1_B
    rw [if_neg (by simp)]
    exact store_end s within_eq
def zb : Box := ([], 0, 0, 0, [], [], 0)
def boxAt (s : List Box × Int) (name : List UInt8) : Option Box := s.1.find? fun b => decide (b.1 = name)
def optBox : Option Box → Box × Bool
  | some b => (b, true)
  | none => (zb, false)
theorem specAt_at {s : List Box × Int} (hs : StoreSmall s) (name : List UInt8) : ∀ (l pre : List Box), s.1 = pre ++ l → spec_BoxAt_L1 s name ((pre.length : Int), zb) = some (optBox (l.find? fun b => decide (b.1 = name)))
  | [], pre, h => by rw [spec_BoxAt_L1_eq]; unfold spec_BoxAt_L1_B; rw [if_neg (by rw [h]; simp)]; rfl
  | r :: l, pre, h => by
    have hlen := hs.len
    have hp : pre.length < s.1.length := by rw [h]; simp
    have hr : s.1[pre.length]? = some r := by rw [h]; simp
    rw [spec_BoxAt_L1_eq]; unfold spec_BoxAt_L1_B
    simp only [dlt hp, if_true, idxO_nat hr]
    rw [l08Copy_eq (hs.box r (by rw [h]; simp)), show w64 ((pre.length : Int) + 1) = ((pre ++ [r]).length : Int) by rw [w64_id (by omega) (by omega)]; simp]
    by_cases e : r.1 = name
    · simp [e, optBox]
    · rw [decide_eq_false e, if_neg (by simp), specAt_at hs name l (pre ++ [r]) (by rw [h]; simp), List.find?_cons_of_neg (by simpa using e)]
theorem specAt_eq {s : List Box × Int} (hs : StoreSmall s) (name : List UInt8) : spec_BoxAt s name = some (optBox (boxAt s name)) := specAt_at hs name s.1 [] rfl
theorem implIdx_eq {s : List Box × Int} (hs : StoreSmall s) (name : List UInt8) : impl_boxAt s name = some (idxF (fun b : Box => decide (b.1 = name)) s.1 0) := by
  unfold impl_boxAt
  rw [indexBox (q := fun b : Box => decide (b.1 = name)) (fun x _ => by rw [predO_fn]; rfl) (by have := hs.len; omega)]; rfl
theorem find_split {α : Type} (q : α → Bool) {a b : List α} {x : α} (h : q x = true) (ha : ∀ y ∈ a, q y = false) : (a ++ x :: b).find? q = some x := by
  rw [List.find?_append, List.find?_eq_none.2 fun y hy => by simp [ha y hy]]; simp [h]
theorem implAt_eq {s : List Box × Int} (hs : StoreSmall s) (name : List UInt8) : impl_BoxAt s name = some (optBox (boxAt s name)) := by
  unfold impl_BoxAt boxAt
  rw [implIdx_eq hs]
  simp only [Option.bind_some]
  by_cases h : ∃ x ∈ s.1, (fun b : Box => decide (b.1 = name)) x = true
  · obtain ⟨a, x, b, h1, h2, h3, h4⟩ := idxF_at (fun b : Box => decide (b.1 = name)) s.1 0 h
    rw [h4, Nat.zero_add, decide_eq_false (by omega), if_neg (by simp), idxO_nat (r := x) (by rw [h1]; simp), copyBox_eq (hs.box x (by rw [h1]; simp)), h1, find_split (fun b : Box => decide (b.1 = name)) h2 h3]; rfl
  · have h' : ∀ x ∈ s.1, (fun b : Box => decide (b.1 = name)) x = false := fun x hx => by simpa using fun e => h ⟨x, hx, by simpa using e⟩
    rw [idxF_m1 _ _ _ h', if_pos (by decide), List.find?_eq_none.2 fun y hy => by simpa using h' y hy]; rfl
def putL (b : Box) : List Box → List Box
  | [] => []
  | x :: l => if x.1 = b.1 then b :: l else x :: putL b l
theorem putL_none {b : Box} : ∀ {l : List Box}, (∀ x ∈ l, x.1 ≠ b.1) → putL b l = l
  | [], _ => rfl
  | x :: l, h => by unfold putL; rw [if_neg (h x (by simp)), putL_none fun y hy => h y (by simp [hy])]
theorem putL_split {b : Box} {x : Box} {l : List Box} (hx : x.1 = b.1) : ∀ {a : List Box}, (∀ y ∈ a, y.1 ≠ b.1) → putL b (a ++ x :: l) = a ++ b :: l
  | [], _ => by simp [putL, hx]
  | y :: a, h => by rw [List.cons_append]; unfold putL; rw [if_neg (h y (by simp)), putL_split hx fun z hz => h z (by simp [hz])]; rfl
theorem set_mid {α : Type} (a : List α) (x y : α) (l : List α) : (a ++ x :: l).set a.length y = a ++ y :: l := by simp
def putBox (s : List Box × Int) (b : Box) : List Box × Int := (putL b s.1, s.2)
theorem specPut_at {s : List Box × Int} (hs : StoreSmall s) {b : Box} (hb : BoxSmall b) : ∀ (l pre : List Box), s.1 = pre ++ l → (∀ y ∈ pre, y.1 ≠ b.1) → spec_PutBox_L1 b ((pre.length : Int), s, ([], 0)) = some (pre ++ putL b l, s.2)
  | [], pre, h, _ => by
    rw [spec_PutBox_L1_eq]; unfold spec_PutBox_L1_B; rw [if_neg (by rw [h]; simp)]
    simp only [List.append_nil] at h
    simp [putL, ← h]
  | r :: l, pre, h, hn => by
    have hlen := hs.len
    have hp : pre.length < s.1.length := by rw [h]; simp
    have hr : s.1[pre.length]? = some r := by rw [h]; simp
    rw [spec_PutBox_L1_eq]; unfold spec_PutBox_L1_B
    simp only [dlt hp, if_true]
    rw [reqO_pos (by omega), idxO_nat hr, show w64 ((pre.length : Int) + 1) = ((pre ++ [r]).length : Int) by rw [w64_id (by omega) (by omega)]; simp]
    by_cases e : r.1 = b.1
    · rw [decide_eq_true e, if_pos rfl, l08Copy_eq hb]
      simp only [Option.bind_some]
      rw [reqO_pos (by omega), Int.toNat_natCast, h, set_mid]
      unfold putL
      rw [if_pos e]
    · rw [decide_eq_false e, if_neg (by simp)]
      have := specPut_at hs hb l (pre ++ [r]) (by rw [h]; simp) fun y hy => by
        rcases List.mem_append.1 hy with k | k
        · exact hn y k
        · simp at k; subst k; exact e
      rw [this]
      conv => rhs; unfold putL
      rw [if_neg e]; simp
theorem specPut_eq {s : List Box × Int} (hs : StoreSmall s) {b : Box} (hb : BoxSmall b) : spec_PutBox s b = some (putBox s b) := by
  unfold spec_PutBox
  rw [l09Copy_eq hs]
  have := specPut_at hs hb s.1 [] rfl (fun y hy => by cases hy)
  exact this
theorem implPut_eq {s : List Box × Int} (hs : StoreSmall s) {b : Box} (hb : BoxSmall b) : impl_PutBox s b = some (putBox s b) := by
  unfold impl_PutBox putBox
  rw [copyStore_eq hs, implIdx_eq hs]
  simp only [Option.bind_some]
  by_cases h : ∃ x ∈ s.1, (fun c : Box => decide (c.1 = b.1)) x = true
  · obtain ⟨a, x, l, h1, h2, h3, h4⟩ := idxF_at (fun c : Box => decide (c.1 = b.1)) s.1 0 h
    rw [h4, Nat.zero_add, decide_eq_true (by omega), if_pos rfl, copyBox_eq hb]
    simp only [Option.bind_some]
    rw [reqO_pos (by rw [h1]; simp; omega), Int.toNat_natCast, h1, set_mid, putL_split (by simpa using h2) fun y hy => by simpa using h3 y hy]
  · have h' : ∀ x ∈ s.1, (fun c : Box => decide (c.1 = b.1)) x = false := fun x hx => by simpa using fun e => h ⟨x, hx, by simpa using e⟩
    rw [idxF_m1 _ _ _ h', if_neg (by decide), putL_none fun y hy => by simpa using h' y hy]
end Go.M
