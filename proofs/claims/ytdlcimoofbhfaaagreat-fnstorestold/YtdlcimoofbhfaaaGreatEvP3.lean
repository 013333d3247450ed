/- A part of the proof. -/
import Derived.Test.YtdlcimoofbhfaaaGreatEvP2
set_option linter.all false
set_option linter.constructorNameAsVariable false
set_option linter.unusedVariables false
set_option linter.unusedSimpArgs false
namespace Go.Ev
section
variable {P : Program} {w w' : World} {Im Im' : IM} {rs : List Sh}
theorem Rows.take : ∀ {l : List (tyL rs)} {us : List Value} (k : Nat), Rows P w Im rs l us → Rows P w Im rs (l.take k) (us.take (k * rs.length))
  | l, us, 0, h => by simp [Rows]
  | [], us, k + 1, h => by simp only [Rows] at h; subst h; simp [Rows]
  | r :: l, us, k + 1, h => by
    simp only [Rows] at h
    obtain ⟨vs, us', rfl, h1, h2⟩ := h
    have hl := CR_length rs r h1
    simp only [List.take_succ_cons, Rows]
    refine ⟨vs, _, ?_, h1, Rows.take k h2⟩
    rw [List.take_append, hl, Nat.add_mul, Nat.one_mul, List.take_of_length_le (by omega)]
    congr 2
    omega
theorem Rows.drop : ∀ {l : List (tyL rs)} {us : List Value} (k : Nat), Rows P w Im rs l us → Rows P w Im rs (l.drop k) (us.drop (k * rs.length))
  | l, us, 0, h => by simpa using h
  | [], us, k + 1, h => by simp only [Rows] at h; subst h; simp [Rows]
  | r :: l, us, k + 1, h => by
    simp only [Rows] at h
    obtain ⟨vs, us', rfl, h1, h2⟩ := h
    have hl := CR_length rs r h1
    rw [List.drop_succ_cons, List.drop_append, hl, Nat.add_mul, Nat.one_mul, show k * rs.length + rs.length - rs.length = k * rs.length by omega, List.drop_of_length_le (l := vs) (by omega), List.nil_append]
    exact Rows.drop k h2
theorem Rows.replicate {z : tyL rs} {us : List Value} (h : CR P rs z w Im us) : ∀ (n : Nat), Rows P w Im rs (List.replicate n z) (List.replicate n us).flatten
  | 0 => by simp [Rows]
  | n + 1 => by
    simp only [List.replicate_succ, Rows, List.flatten_cons]
    exact ⟨us, _, rfl, h, Rows.replicate h n⟩
end
theorem over_mid {cs : Array Value} {us news : List Value} {o k : Nat} (h : ∀ (j : Nat) u, us[j]? = some u → cs[o + j]? = some u) (hle : k + news.length ≤ us.length) (hfit : o + us.length ≤ cs.size) :
    ∀ (j : Nat) u, (us.take k ++ news ++ us.drop (k + news.length))[j]? = some u → (over cs (o + k) news)[o + j]? = some u := by
  intro j u hj
  have hf : o + k + news.length ≤ cs.size := by omega
  by_cases h1 : j < k
  · rw [List.append_assoc, List.getElem?_append_left (by simp; omega), List.getElem?_take, if_pos h1] at hj
    rw [over_out hf (.inl (by omega))]
    exact h j u hj
  · by_cases h2 : j < k + news.length
    · rw [List.append_assoc, List.getElem?_append_right (by simp; omega), List.length_take, List.getElem?_append_left (by omega)] at hj
      have := over_in hf _ _ hj
      rwa [show o + k + (j - min k us.length) = o + j by omega] at this
    · have hlen : (us.take k ++ news).length = k + news.length := by simp; omega
      rw [List.getElem?_append_right (by omega), List.getElem?_drop, hlen] at hj
      rw [over_out hf (.inr (by omega))]
      have := h _ u hj
      rwa [show o + (k + news.length + (j - (k + news.length))) = o + j by omega] at this
theorem over_end {cs : Array Value} {us news : List Value} {o : Nat} (h : ∀ (j : Nat) u, us[j]? = some u → cs[o + j]? = some u) (hfit : o + us.length + news.length ≤ cs.size) :
    ∀ (j : Nat) u, (us ++ news)[j]? = some u → (over cs (o + us.length) news)[o + j]? = some u := by
  intro j u hj
  by_cases h1 : j < us.length
  · rw [List.getElem?_append_left h1] at hj
    rw [over_out hfit (.inl (by omega))]
    exact h j u hj
  · rw [List.getElem?_append_right (by omega)] at hj
    have := over_in hfit _ _ hj
    rwa [show o + us.length + (j - us.length) = o + j by omega] at this
section
variable {P : Program} {c : Ctx} {H : Hp} {Q : QM} {Im : IM} {w : World} {val : Operand → D} {ρ : Operand → Value} {hpE : Heap} {nid : Nat} {o : Oper} {x : D × Dl}
theorem toR_solid {sh : Sh} {d : D} {y} (h : toR hpE sh d = some y) : solid d = true := by
  cases d <;> first | rfl | (cases sh <;> simp [toR] at h)
theorem toRL_solid : ∀ (rs : List Sh) (ds : List D) (y), toRL hpE rs ds = some y → ds.all solid = true ∧ ds.length = rs.length
  | [], [], y, h => by simp
  | [a], [d], y, h => by
    simp only [toRL] at h
    simp [toR_solid h]
  | a :: c :: r, d :: ds, y, h => by
    simp only [toRL] at h
    split at h
    · rename_i z i h1
      split at h
      · rename_i z2 j h2
        obtain ⟨h3, h4⟩ := toRL_solid (c :: r) ds _ h2
        simp only [List.length_cons] at h4 ⊢
        exact ⟨by simp [toR_solid h1, h3], by omega⟩
      · cases h
    · cases h
  | [], _ :: _, y, h => by simp [toRL] at h
  | [a], [], y, h => by simp [toRL] at h
  | [a], _ :: _ :: _, y, h => by simp [toRL] at h
  | a :: c :: r, [], y, h => by simp [toRL] at h
theorem fill_seq (hw : WR P H Q Im w) (hv : ∀ x, DR P w Im H.kd Q (val x) (ρ x)) (hsub : ∀ id h, hpE.find id = some h → H id = some h) {rs : List Sh} :
    ∀ (ps : List (Nat × Operand)) (k : Nat) (cs : Array Value) (l : List (tyL rs)) (sn : List Nat), partsSeq k ps = true → rowsOf rs hpE (ps.map fun p => val p.2) = some (l, sn) → (k + ps.length) * rs.length ≤ cs.size →
      ∃ us, Rows P w (ImS Q Im sn) rs l us ∧ us.length = ps.length * rs.length ∧ l.length = ps.length ∧
        Instr.fill (fun i => some (i * rs.length, rs.length)) cs (ps.map fun p => (p.1, ρ p.2)) = some (cs.toList.take (k * rs.length) ++ us ++ cs.toList.drop ((k + ps.length) * rs.length)).toArray
  | [], k, cs, l, sn, hp, h, hle => by
    simp only [List.map_nil, rowsOf] at h; cases h
    exact ⟨[], by simp [Rows], by simp, rfl, by simp [Instr.fill]⟩
  | (i, y) :: r, k, cs, l, sn, hp, h, hle => by
    simp only [partsSeq, Bool.and_eq_true, beq_iff_eq] at hp
    obtain ⟨rfl, hp⟩ := hp
    simp only [List.map_cons, rowsOf] at h
    split at h
    · rename_i z i1 h1
      split at h
      · rename_i z2 j1 h2
        cases h
        obtain ⟨h3, h4⟩ := toRL_solid _ _ _ h1
        have hlv := leaves_cells h3 (hv y)
        have hcr := toRL_sound hw.ob hsub rs _ z i1 _ h1 hlv
        have hcl := CR_length rs z hcr
        have hcs : (ρ y).cells.size = rs.length := by rw [← Array.length_toList]; exact hcl
        simp only [List.length_cons] at hle
        have hle' : i * rs.length + rs.length ≤ cs.size := by
          have : (i + 1) * rs.length ≤ (i + (r.length + 1)) * rs.length := Nat.mul_le_mul_right _ (by omega)
          rw [Nat.add_mul] at this; omega
        have hsz : (cs.toList.take (i * rs.length) ++ (ρ y).cells.toList ++ cs.toList.drop (i * rs.length + (ρ y).cells.size)).toArray.size = cs.size := by
          simp only [List.size_toArray, List.length_append, List.length_take, List.length_drop, Array.length_toList]; omega
        obtain ⟨us, h5, h6, h7, h8⟩ := fill_seq hw hv hsub r (i + 1) (cs.toList.take (i * rs.length) ++ (ρ y).cells.toList ++ cs.toList.drop (i * rs.length + (ρ y).cells.size)).toArray z2 j1 hp h2 (by
          rw [hsz, show i + 1 + r.length = i + (r.length + 1) by omega]; exact hle)
        refine ⟨(ρ y).cells.toList ++ us, ?_, ?_, by simp [h7], ?_⟩
        · simp only [Rows]
          exact ⟨_, us, rfl, CR_mono rs z (ImS_sub (by intro q hq; simp [hq]) w) hcr, h5.mono (ImS_sub (by intro q hq; simp [hq]) w)⟩
        · rw [List.length_append, Array.length_toList, hcs, h6, List.length_cons, Nat.add_mul]; omega
        · rw [List.map_cons, fill_one (off := i * rs.length) (by rw [hcs]) (by rw [hcs]; exact hle'), h8]
          congr 2
          have e1 : (i + 1) * rs.length = i * rs.length + rs.length := by rw [Nat.add_mul]; omega
          have e2 : (cs.toList.take (i * rs.length)).length = i * rs.length := by simp; omega
          have e3 : (cs.toList.take (i * rs.length) ++ (ρ y).cells.toList).length = i * rs.length + rs.length := by rw [List.length_append, e2, hcl]
          rw [e1, hcs]
          have e4 : (cs.toList.take (i * rs.length) ++ (ρ y).cells.toList ++ cs.toList.drop (i * rs.length + rs.length)).take (i * rs.length + rs.length) = cs.toList.take (i * rs.length) ++ (ρ y).cells.toList := by
            rw [← e3]; exact List.take_left
          have e5 : (i + 1 + r.length) * rs.length = (i * rs.length + rs.length) + r.length * rs.length := by rw [Nat.add_mul, e1]
          have e6 : (cs.toList.take (i * rs.length) ++ (ρ y).cells.toList ++ cs.toList.drop (i * rs.length + rs.length)).drop ((i + 1 + r.length) * rs.length) = cs.toList.drop ((i + ((i, y) :: r).length) * rs.length) := by
            rw [e5, List.drop_append, List.drop_of_length_le (by omega), List.nil_append, e3, List.drop_drop]
            congr 1
            simp only [List.length_cons]
            rw [show i + (r.length + 1) = i + 1 + r.length by omega, e5]
            omega
          rw [List.append_assoc] at e4 e6
          simp only [List.append_assoc]
          rw [e4, e6]
          simp
      · cases h
    · cases h
end
end Go.Ev
