/- A part of the proof. -/
import Derived.Test.YtdlcimoofbhfaaaGreatEvO8
import Derived.Laws.CopyRow
set_option linter.all false
set_option linter.constructorNameAsVariable false
set_option linter.unusedVariables false
set_option linter.unusedSimpArgs false
namespace Go.Ev
def obIds : Ob → List Nat
  | .box ds => idsL ds
  | .buf _ _ => []
theorem look_none {α : Type} : ∀ (l : List (Nat × α)) (n : Nat), look l n = none ↔ n ∉ l.map (·.1)
  | [], n => by simp [look]
  | (k, x) :: r, n => by
    simp only [look]
    split
    · rename_i h; subst h; simp
    · rename_i h
      rw [look_none r n]
      simp [Ne.symm h]
theorem look_mem {α : Type} {l : List (Nat × α)} {n : Nat} {x : α} (h : look l n = some x) : n ∈ l.map (·.1) := by
  rcases Classical.em (n ∈ l.map (·.1)) with h1 | h1
  · exact h1
  · rw [(look_none l n).2 h1] at h; cases h
theorem look_some {α : Type} {l : List (Nat × α)} {n : Nat} (h : n ∈ l.map (·.1)) : ∃ x, look l n = some x := by
  cases e : look l n with
  | some x => exact ⟨x, rfl⟩
  | none => exact absurd h ((look_none l n).1 e)
theorem Hp.app_put {H : Hp} {δ : Dl} {id : Nat} {ob : Ob} (h : look δ.put id = some ob) : H.app δ id = some ⟨id, false, ob⟩ := by simp [Hp.app, h]
theorem Hp.app_out {H : Hp} {δ : Dl} {id : Nat} (h : id ∉ δ.ids) : H.app δ id = H id := by
  simp only [Dl.ids, List.mem_append, not_or] at h
  simp [Hp.app, (look_none _ _).2 h.2, h.1]
theorem Hp.app_del {H : Hp} {δ : Dl} {id : Nat} (h : id ∈ δ.del) (h1 : look δ.put id = none) : H.app δ id = none := by simp [Hp.app, h1, h]
section
variable {P : Program} {H : Hp} {Q : QM} {Im : IM} {w : World} {nid : Nat}
structure Chg (H : Hp) (Q Q' : QM) (w w' : World) (sn : List Nat) (nid : Nat) (δ : Dl) : Prop where
  qt : outside w' = outside w
  grow : w.heap.size ≤ w'.heap.size
  bs : ∀ id h b o, H id = some h → Q id = some (b, o) → id ∉ δ.ids ∨ look δ.put id ≠ none → h.ob.kd = .box ∨ bsize w' b = bsize w b
  ch : ∀ b, b < w.heap.size → w'.heap[b]? = w.heap[b]? ∨ ∃ id h o, id ∈ δ.ids ∧ id ∉ sn ∧ H id = some h ∧ Q id = some (b, o)
  qs : ∀ id, id ∉ δ.ids → Q' id = Q id
  fro : ∀ id ∈ sn, id ∈ δ.del ∧ look δ.put id = none
  del : ∀ id ∈ δ.del, ∃ h, H id = some h ∧ h.ro = false
  kd : ∀ id ob, look δ.put id = some ob → (H id = none ∧ nid ≤ id ∧ id < nid + 8) ∨ (∃ h, H id = some h ∧ h.ro = false ∧ h.ob.kd = ob.kd ∧ Q' id = Q id)
  own : ∀ id ob b o, look δ.put id = some ob → Q' id = some (b, o) → b < w'.heap.size ∧ (w.heap.size ≤ b ∨ ∃ id' h o', id' ∈ δ.ids ∧ id' ∉ sn ∧ H id' = some h ∧ Q id' = some (b, o'))
  inj : ∀ id id' ob ob' b o o', look δ.put id = some ob → look δ.put id' = some ob' → Q' id = some (b, o) → Q' id' = some (b, o') → id = id'
variable {Q' : QM} {sn : List Nat} {w' : World} {δ : Dl}
theorem Chg.kept (hw : WR P H Q Im w) (hg : Chg H Q Q' w w' sn nid δ) : ∀ b, ImS Q Im sn b → w'.heap[b]? = w.heap[b]? := by
  intro b hb
  rcases hb with hb | ⟨id, h1, o, h2⟩
  · rcases hg.ch b (hw.imlt b hb) with h | ⟨id, h, o, _, _, h1, h2⟩
    · exact h
    · exact absurd hb (hw.own id h b o h1 h2).2
  · obtain ⟨h, h3, _⟩ := hg.del id (hg.fro id h1).1
    rcases hg.ch b (hw.own id h b o h3 h2).1 with h | ⟨id', h', o', _, h4, h5, h6⟩
    · exact h
    · have := hw.inj id id' _ _ _ _ _ h3 h5 h2 h6
      subst this
      exact absurd h1 h4
theorem Chg.imm (hw : WR P H Q Im w) (hg : Chg H Q Q' w w' sn nid δ) : ∀ b, Im b → ImS Q Im sn b ∧ w'.heap[b]? = w.heap[b]? :=
  fun b hb => ⟨.inl hb, hg.kept hw b (.inl hb)⟩
theorem Chg.imms (hw : WR P H Q Im w) (hg : Chg H Q Q' w w' sn nid δ) : ∀ b, ImS Q Im sn b → ImS Q Im sn b ∧ w'.heap[b]? = w.heap[b]? :=
  fun b hb => ⟨hb, hg.kept hw b hb⟩
theorem Chg.refs (hw : WR P H Q Im w) (hg : Chg H Q Q' w w' sn nid δ) : ∀ id, ¬ (nid ≤ id ∧ id < nid + 8) → RefOk w w' H.kd (H.app δ).kd Q Q' id := by
  intro id hid
  cases e : look δ.put id with
  | some ob =>
    rcases hg.kd id ob e with ⟨_, h⟩ | ⟨h, h1, _, h2, h3⟩
    · exact absurd h hid
    · refine ⟨.inr ⟨by simp [Hp.kd, Hp.app_put e, h1, h2], h3, fun b o hb => (hg.bs id h b o h1 hb (.inr (by rw [e]; simp))).imp (fun h8 => by simp [Hp.kd, h1, h8]) (fun h8 => h8)⟩⟩
  | none =>
    by_cases hd : id ∈ δ.del
    · exact ⟨.inl (by simp [Hp.kd, Hp.app_del hd e])⟩
    · have hn : id ∉ δ.ids := by simp only [Dl.ids, List.mem_append, not_or]; exact ⟨hd, (look_none _ _).1 e⟩
      cases e1 : H id with
      | none => exact ⟨.inl (by simp [Hp.kd, Hp.app_out hn, e1])⟩
      | some h => exact ⟨.inr ⟨by simp [Hp.kd, Hp.app_out hn], hg.qs id hn, fun b o hb => (hg.bs id h b o e1 hb (.inl hn)).imp (fun h8 => by simp [Hp.kd, e1, h8]) (fun h8 => h8)⟩⟩
theorem Chg.out (hw : WR P H Q Im w) (hg : Chg H Q Q' w w' sn nid δ) {id b o : Nat} {h : HO} (h1 : H id = some h) (h2 : Q id = some (b, o)) (hn : id ∉ δ.ids) : w'.heap[b]? = w.heap[b]? := by
  rcases hg.ch b (hw.own id h b o h1 h2).1 with h | ⟨id', h', o', h3, h4, h5, h6⟩
  · exact h
  · have := hw.inj id id' _ _ _ _ _ h1 h5 h2 h6
    subst this
    exact absurd h3 hn
theorem Chg.stepI {N : IM} (hw : WR P H Q Im w) (hg : Chg H Q Q' w w' sn nid δ)
    (hN : ∀ b, N b → b < w'.heap.size ∧ (w.heap.size ≤ b ∨ ∃ id h o, id ∈ δ.ids ∧ H id = some h ∧ Q id = some (b, o)) ∧ ∀ id ob o, look δ.put id = some ob → Q' id = some (b, o) → False)
    (hfresh : ∀ id h, H id = some h → ∀ i ∈ obIds h.ob, ¬ (nid ≤ i ∧ i < nid + 8))
    (hob : ∀ id ob, look δ.put id = some ob → ObR P w' (fun b => ImS Q Im sn b ∨ N b) (H.app δ).kd Q' id ob) :
    WR P (H.app δ) Q' (fun b => ImS Q Im sn b ∨ N b) w' ∧ Trans H (H.app δ) Q Q' Im (fun b => ImS Q Im sn b ∨ N b) w w' δ.ids nid := by
  have immN : ∀ b, Im b → (ImS Q Im sn b ∨ N b) ∧ w'.heap[b]? = w.heap[b]? := fun b hb => ⟨.inl (.inl hb), (hg.imm hw b hb).2⟩
  have cases_ : ∀ id h, H.app δ id = some h → (∃ ob, look δ.put id = some ob ∧ h = ⟨id, false, ob⟩) ∨ (id ∉ δ.ids ∧ H id = some h) := by
    intro id h he
    cases e : look δ.put id with
    | some ob => rw [Hp.app_put e] at he; cases he; exact .inl ⟨ob, rfl, rfl⟩
    | none =>
      by_cases hd : id ∈ δ.del
      · rw [Hp.app_del hd e] at he; cases he
      · have hn : id ∉ δ.ids := by simp only [Dl.ids, List.mem_append, not_or]; exact ⟨hd, (look_none _ _).1 e⟩
        rw [Hp.app_out hn] at he
        exact .inr ⟨hn, he⟩
  have outIds : ∀ id, id ∈ δ.ids → (∃ ob, look δ.put id = some ob) ∨ (look δ.put id = none ∧ id ∈ δ.del) := by
    intro id hi
    cases e : look δ.put id with
    | some ob => exact .inl ⟨ob, rfl⟩
    | none =>
      simp only [Dl.ids, List.mem_append] at hi
      rcases hi with hi | hi
      · exact .inr ⟨rfl, hi⟩
      · exact absurd hi ((look_none _ _).1 e)
  refine ⟨⟨?_, ?_, ?_, ?_⟩, ⟨hg.grow, immN, ?_, ?_, ?_, hg.refs hw, ?_, ?_, ?_, hg.qt⟩⟩
  · intro b hb
    rcases hb with (hb | ⟨id, h1, o, h2⟩) | hb
    rotate_left 2
    · exact (hN b hb).1
    · exact Nat.lt_of_lt_of_le (hw.imlt b hb) hg.grow
    · obtain ⟨h, h3, _⟩ := hg.del id (hg.fro id h1).1
      exact Nat.lt_of_lt_of_le (hw.own id h b o h3 h2).1 hg.grow
  · intro id h b o he hq
    rcases cases_ id h he with ⟨ob, h1, h2⟩ | ⟨h1, h2⟩
    · obtain ⟨h3, h4⟩ := hg.own id ob b o h1 hq
      refine ⟨h3, ?_⟩
      rintro ((hb | ⟨id2, h5, o2, h6⟩) | hb)
      rotate_left 2
      · exact (hN b hb).2.2 id ob o h1 hq
      · rcases h4 with h4 | ⟨id', h', o', _, _, h6, h7⟩
        · exact absurd (hw.imlt b hb) (by omega)
        · exact (hw.own id' h' b o' h6 h7).2 hb
      · obtain ⟨h7, h8, _⟩ := hg.del id2 (hg.fro id2 h5).1
        rcases h4 with h4 | ⟨id', h', o', _, h9, h10, h11⟩
        · exact absurd (hw.own id2 h7 b o2 h8 h6).1 (by omega)
        · have := hw.inj id2 id' _ _ _ _ _ h8 h10 h6 h11
          subst this
          exact h9 h5
    · rw [hg.qs id h1] at hq
      obtain ⟨h3, h4⟩ := hw.own id h b o h2 hq
      refine ⟨Nat.lt_of_lt_of_le h3 hg.grow, ?_⟩
      rintro ((hb | ⟨id2, h5, o2, h6⟩) | hb)
      rotate_left 2
      · rcases (hN b hb).2.1 with h7 | ⟨id2, h5, o2, h6, h7, h8⟩
        · omega
        · have := hw.inj id2 id _ _ _ _ _ h7 h2 h8 hq
          subst this
          exact h1 h6
      · exact h4 hb
      · obtain ⟨h7, h8, _⟩ := hg.del id2 (hg.fro id2 h5).1
        have := hw.inj id2 id _ _ _ _ _ h8 h2 h6 hq
        subst this
        exact h1 (by simp [Dl.ids, (hg.fro id2 h5).1])
  · intro id id' h h' b o o' he he' hq hq'
    rcases cases_ id h he with ⟨ob, h1, h2⟩ | ⟨h1, h2⟩ <;> rcases cases_ id' h' he' with ⟨ob', h1', h2'⟩ | ⟨h1', h2'⟩
    · exact hg.inj id id' ob ob' b o o' h1 h1' hq hq'
    · exfalso
      rw [hg.qs id' h1'] at hq'
      rcases (hg.own id ob b o h1 hq).2 with h4 | ⟨id2, h3, o3, h5, h9, h10, h11⟩
      · exact absurd (hw.own id' h' b o' h2' hq').1 (by omega)
      · have := hw.inj id2 id' _ _ _ _ _ h10 h2' h11 hq'
        subst this
        exact h1' h5
    · exfalso
      rw [hg.qs id h1] at hq
      rcases (hg.own id' ob' b o' h1' hq').2 with h4 | ⟨id2, h3, o3, h5, h9, h10, h11⟩
      · exact absurd (hw.own id h b o h2 hq).1 (by omega)
      · have := hw.inj id2 id _ _ _ _ _ h10 h2 h11 hq
        subst this
        exact h1 h5
    · rw [hg.qs id h1] at hq
      rw [hg.qs id' h1'] at hq'
      exact hw.inj id id' h h' b o o' h2 h2' hq hq'
  · intro id h he
    rcases cases_ id h he with ⟨ob, h1, h2⟩ | ⟨h1, h2⟩
    · subst h2; exact hob id ob h1
    · have h3 := hw.ob id h h2
      have hf := hfresh id h h2
      cases eo : h.ob with
      | box ds =>
        rw [eo] at h3 hf
        obtain ⟨b, us, e, fz, a1, a2, a3, a4⟩ := h3
        exact ⟨b, us, e, fz, by rw [hg.qs id h1]; exact a1, by rw [hg.out hw h2 a1 h1]; exact a2, a3, DRL_mono immN ds us (fun i hi => hg.refs hw i (hf i hi)) a4⟩
      | buf rs l =>
        rw [eo] at h3
        rcases h3 with ⟨h3, h4⟩ | ⟨b, o, cs, e, fz, a1, a2, a3, a4, a5⟩
        · exact .inl ⟨by rw [hg.qs id h1]; exact h3, h4⟩
        · refine .inr ⟨b, o, cs, e, fz, by rw [hg.qs id h1]; exact a1, by rw [hg.out hw h2 a1 h1]; exact a2, a3, a4, fun i r hr => ?_⟩
          obtain ⟨vs, b1, b2⟩ := a5 i r hr
          exact ⟨vs, CR_mono rs r immN b1, b2⟩
  · intro b hb
    rcases hb with (hb | ⟨id, h1, o, h2⟩) | hb
    rotate_left 2
    · rcases (hN b hb).2.1 with h7 | ⟨id2, h5, o2, h6, h7, h8⟩
      · exact .inr (.inl h7)
      · exact .inr (.inr ⟨id2, h5, o2, h7, h8⟩)
    · exact .inl hb
    · obtain ⟨h, h3, _⟩ := hg.del id (hg.fro id h1).1
      exact .inr (.inr ⟨id, h, o, h3, h2⟩)
  · intro b hb hno
    rcases hg.ch b hb with h | ⟨id', h', o', h3, h4, h5, h6⟩
    · exact h
    · exact (hno id' h' o' h5 h6).elim
  · intro id h b o he hq
    rcases cases_ id h he with ⟨ob, h1, h2⟩ | ⟨h1, h2⟩
    · rcases (hg.own id ob b o h1 hq).2 with h4 | ⟨id', h', o', _, _, h10, h11⟩
      · exact .inl h4
      · exact .inr ⟨id', h', o', h10, h11⟩
    · rw [hg.qs id h1] at hq
      exact .inr ⟨id, h, o, h2, hq⟩
  · intro id hi
    exact ⟨Hp.app_out hi, hg.qs id hi⟩
  · intro id h hi he
    rcases outIds id hi with ⟨ob, h1⟩ | ⟨_, h1⟩
    · rcases hg.kd id ob h1 with ⟨h2, _⟩ | ⟨h', h2, h3, _⟩
      · rw [h2] at he; cases he
      · rw [h2] at he; cases he; exact h3
    · obtain ⟨h', h2, h3⟩ := hg.del id h1
      rw [h2] at he; cases he; exact h3
  · intro id hi he
    rcases outIds id hi with ⟨ob, h1⟩ | ⟨_, h1⟩
    · rcases hg.kd id ob h1 with ⟨_, h2⟩ | ⟨h', h2, h3, _⟩
      · exact h2
      · rw [h2] at he; cases he
    · obtain ⟨h', h2, h3⟩ := hg.del id h1
      rw [h2] at he; cases he
theorem Chg.step (hw : WR P H Q Im w) (hg : Chg H Q Q' w w' sn nid δ)
    (hfresh : ∀ id h, H id = some h → ∀ i ∈ obIds h.ob, ¬ (nid ≤ i ∧ i < nid + 8))
    (hob : ∀ id ob, look δ.put id = some ob → ObR P w' (ImS Q Im sn) (H.app δ).kd Q' id ob) :
    WR P (H.app δ) Q' (ImS Q Im sn) w' ∧ Trans H (H.app δ) Q Q' Im (ImS Q Im sn) w w' δ.ids nid := by
  have e : (fun b => ImS Q Im sn b ∨ (fun _ => False) b) = ImS Q Im sn := by funext b; simp
  have := hg.stepI (N := fun _ => False) hw (fun b hb => hb.elim) hfresh (by rw [e]; exact hob)
  rw [e] at this
  exact this
end
end Go.Ev
