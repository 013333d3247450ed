/- A part of the proof. -/
import Derived.Test.YtdlcimoofbhfaaaGreatEvU
set_option linter.all false
set_option linter.constructorNameAsVariable false
set_option linter.unusedVariables false
set_option linter.unusedSimpArgs false
namespace Go.Ev
def zeroB1 : Sh → Value → Bool
  | .b, .bool t => !t
  | .i k, .int k' n => decide (k' = k) && n == 0
  | .s, .string s => s.data.toList.isEmpty
  | .e, .nilIface => true
  | .sl _, .slice none 0 0 => true
  | .rf _, _ | .fn _ _, _ | .fn2 _, _ => true
  | _, _ => false
def zeroB : List Sh → List Value → Bool
  | [], [] => true
  | sh :: r, u :: us => zeroB1 sh u && zeroB r us
  | _, _ => false
def isU8 : List Sh → Bool
  | [.i .u8] => true
  | _ => false
def elemB (P : Program) (e : TypeId) (rs : List Sh) : Bool :=
  (match P.info? e with
  | some i => i.size == rs.length && decide (1 ≤ i.bytes) && decide (i.bytes ≤ 65536) && (match i.zero with | some z => zeroB rs z.cells.toList | none => false)
  | none => false) && (match P.underlying e with | some (.int .u8) => isU8 rs | _ => !isU8 rs) && decide (0 < rs.length)
def shB (P : Program) : Sh → TypeDesc → Bool
  | .b, .bool => true
  | .i k, .int k' => decide (k' = k)
  | .s, .string => true
  | .e, .interface _ => true
  | .sl rs, .slice e => elemB P e rs
  | .rf _, d | .fn _ _, d | .fn2 _, d => !isAggD d
  | _, _ => false
def fldB (P : Program) (T : TypeId) : Sh → Bool
  | .b => match P.underlying T with | some .bool => true | _ => false
  | .i k => match P.underlying T with | some (.int k') => decide (k' = k) | _ => false
  | .s => match P.underlying T with | some .string => true | _ => false
  | _ => false
def eqFsB (P : Program) : Nat → List Sh → List Field → Bool
  | _, [], [] => true
  | n, sh :: r, f :: fs => decide (f.name ≠ "_") && f.offset == n && fldB P f.type sh && eqFsB P (n + 1) r fs
  | _, _, _ => false
def fsB (P : Program) (n : Nat) : List Field → List (Nat × Nat × Bool) → Bool
  | [], [] => true
  | f :: r, (off, k, ag) :: s => f.offset == off && (match P.info? f.type, P.underlying f.type with | some i, some d => i.size == k && decide (0 < k) && decide (off + k ≤ n) && isAggD d == ag | _, _ => false) && fsB P n r s
  | _, _ => false
def tiB (P : Program) (t : TypeId) (ti : TI) : Bool :=
  decide (0 < ti.cs.length) && (match P.info? t with
  | some i => i.size == ti.cs.length && (match i.zero with | some z => zeroB ti.cs z.cells.toList && (!ti.ag || (match z with | .agg _ => true | _ => false)) | none => false)
  | none => false) && (match P.underlying t with
  | some (.struct fs) => ti.ag && fs.size == ti.fs.length && fsB P ti.cs.length fs.toList ti.fs && (!ti.eq || (!(P.eqGuardType P.depth t) && !(P.stoodInHeld t) && eqFsB P 0 ti.cs fs.toList))
  | some d => !ti.ag && !ti.eq && ti.fs.isEmpty && (match ti.cs with | [sh] => !isAggD d && shB P sh d | _ => false)
  | none => false)
theorem zeroB_ok : ∀ {rs : List Sh} {us : List Value}, zeroB rs us = true → zeroCells rs us
  | [], [], h => rfl
  | sh :: r, u :: us, h => by
    simp only [zeroB, Bool.and_eq_true] at h
    refine ⟨u, us, rfl, ?_, zeroB_ok h.2⟩
    have h1 := h.1
    cases sh <;> cases u <;> simp_all [zeroB1]
    rename_i a n c
    cases a <;> simp_all [zeroB1]
    cases n <;> cases c <;> simp_all [zeroB1]
  | [], u :: us, h => by simp [zeroB] at h
  | sh :: r, [], h => by simp [zeroB] at h
theorem isU8_ok {rs : List Sh} : isU8 rs = true ↔ rs = [.i .u8] := by
  constructor
  · intro h
    unfold isU8 at h
    split at h
    · rfl
    · cases h
  · rintro rfl; rfl
theorem elemB_ok {P : Program} {e : TypeId} {rs : List Sh} (h : elemB P e rs = true) : ElemOk P e rs := by
  simp only [elemB, Bool.and_eq_true, decide_eq_true_eq] at h
  obtain ⟨⟨h1, h2⟩, h3⟩ := h
  refine ⟨?_, ?_, ?_, h3⟩
  · split at h1
    · rename_i i hi
      simp only [Bool.and_eq_true, decide_eq_true_eq, beq_iff_eq] at h1
      obtain ⟨⟨⟨a, b⟩, d⟩, h4⟩ := h1
      split at h4
      · rename_i z hz
        exact ⟨i, z, hi, a, b, d, hz, zeroB_ok h4⟩
      · cases h4
    · cases h1
  · intro hr
    split at h2
    · assumption
    · rw [isU8_ok.2 hr] at h2; cases h2
  · intro hu
    rw [hu] at h2
    exact isU8_ok.1 h2
theorem shB_ok {P : Program} {sh : Sh} {d : TypeDesc} (h : shB P sh d = true) : shDesc P sh d := by
  cases sh <;> cases d <;> simp_all [shB, shDesc, isAggD]
  exact elemB_ok h
theorem fldB_ok {P : Program} {T : TypeId} {sh : Sh} (h : fldB P T sh = true) : fldD P T sh := by
  cases sh <;> simp only [fldB] at h <;> simp only [fldD]
  · split at h
    · assumption
    · cases h
  · split at h
    · rename_i h1; rw [h1]; simp at h; rw [h]
    · cases h
  · split at h
    · assumption
    · cases h
  all_goals cases h
theorem eqFsB_ok {P : Program} : ∀ {n : Nat} {rs : List Sh} {fs : List Field}, eqFsB P n rs fs = true → eqFs P n rs fs
  | n, [], [], h => rfl
  | n, sh :: r, f :: fs, h => by
    simp only [eqFsB, Bool.and_eq_true, decide_eq_true_eq, beq_iff_eq] at h
    obtain ⟨⟨⟨a, b⟩, c⟩, d⟩ := h
    exact ⟨f, fs, rfl, a, b, fldB_ok c, eqFsB_ok d⟩
  | n, [], f :: fs, h => by simp [eqFsB] at h
  | n, sh :: r, [], h => by simp [eqFsB] at h
theorem fsB_ok {P : Program} {n : Nat} : ∀ {fs : List Field} {ts : List (Nat × Nat × Bool)}, fsB P n fs ts = true → ∀ (j : Nat) off k ag, ts[j]? = some (off, k, ag) → ∃ f i d, fs[j]? = some f ∧ f.offset = off ∧ P.info? f.type = some i ∧ P.underlying f.type = some d ∧ i.size = k ∧ 0 < k ∧ off + k ≤ n ∧ isAggD d = ag
  | [], [], h, j, off, k, ag, hj => by simp at hj
  | f :: r, (o, k0, a0) :: s, h, j, off, k, ag, hj => by
    simp only [fsB, Bool.and_eq_true, beq_iff_eq] at h
    obtain ⟨⟨h1, h2⟩, h3⟩ := h
    cases j with
    | zero =>
      simp at hj
      obtain ⟨rfl, rfl, rfl⟩ := hj
      split at h2
      · rename_i i d hi hd
        simp only [Bool.and_eq_true, decide_eq_true_eq, beq_iff_eq] at h2
        obtain ⟨⟨⟨a, b⟩, c⟩, e⟩ := h2
        exact ⟨f, i, d, rfl, h1, hi, hd, a, b, c, e⟩
      · cases h2
    | succ j => exact fsB_ok h3 j off k ag (by simpa using hj)
  | [], t :: ts, h, j, off, k, ag, hj => by simp [fsB] at h
  | f :: r, [], h, j, off, k, ag, hj => by simp at hj
theorem tiB_ok {P : Program} {t : TypeId} {ti : TI} (h : tiB P t ti = true) : TiOk P t ti := by
  simp only [tiB, Bool.and_eq_true, decide_eq_true_eq] at h
  obtain ⟨⟨h1, h2⟩, h3⟩ := h
  refine .inr ⟨h1, ?_, ?_⟩
  · split at h2
    · rename_i i hi
      simp only [Bool.and_eq_true, beq_iff_eq] at h2
      obtain ⟨a, h4⟩ := h2
      split at h4
      · rename_i z hz
        simp only [Bool.and_eq_true] at h4
        exact ⟨i, z, hi, a, hz, zeroB_ok h4.1⟩
      · cases h4
    · cases h2
  · split at h3
    · rename_i fs hd
      simp only [Bool.and_eq_true, beq_iff_eq] at h3
      obtain ⟨⟨⟨a, b⟩, c⟩, d⟩ := h3
      refine .agg fs a ⟨hd, b⟩ (fun j off n ag hj => ?_) ?_ (fun he => ?_)
      · obtain ⟨f, i, d', k1, k2⟩ := fsB_ok c j off n ag hj
        exact ⟨f, i, d', by simpa using k1, k2⟩
      · split at h2
        · rename_i i hi
          simp only [Bool.and_eq_true, beq_iff_eq] at h2
          obtain ⟨_, h4⟩ := h2
          split at h4
          · rename_i z hz
            simp only [Bool.and_eq_true] at h4
            have h5 := h4.2
            rw [a] at h5
            simp only [Bool.not_true, Bool.false_or] at h5
            split at h5
            · rename_i cs; exact ⟨i, cs, hi, hz⟩
            · cases h5
          · cases h4
        · cases h2
      · rw [he] at d
        simp only [Bool.not_true, Bool.false_or, Bool.and_eq_true, Bool.not_eq_true'] at d
        exact ⟨d.1.1, d.1.2, eqFsB_ok d.2⟩
    · rename_i d hne hd
      simp only [Bool.and_eq_true, Bool.not_eq_true'] at h3
      obtain ⟨⟨⟨a, b⟩, c⟩, h4⟩ := h3
      split at h4
      · rename_i sh hcs
        simp only [Bool.and_eq_true, Bool.not_eq_true'] at h4
        exact .one sh d a b (by simpa using c) hcs hd h4.1 (shB_ok h4.2)
      · cases h4
    · cases h3
def thOf (l : List (Nat × TI)) (t : Nat) : TI := match look l t with | some ti => ti | none => {}
theorem thOf_ok {P : Program} {l : List (Nat × TI)} (h : (l.all fun p => tiB P p.1 p.2) = true) : ∀ t, TiOk P t (thOf l t) := by
  intro t
  unfold thOf
  cases e : look l t with
  | none => exact .inl ⟨rfl, rfl, rfl, rfl⟩
  | some ti => exact tiB_ok (List.all_eq_true.1 h (t, ti) (mem_of_look e))
end Go.Ev
