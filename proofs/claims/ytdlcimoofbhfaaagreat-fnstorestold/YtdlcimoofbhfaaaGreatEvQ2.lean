/- A part of the proof. -/
import Derived.Test.YtdlcimoofbhfaaaGreatEvQ1
set_option linter.all false
set_option linter.constructorNameAsVariable false
set_option linter.unusedVariables false
set_option linter.unusedSimpArgs false
namespace Go.Ev
abbrev AL := List (Nat × Option (Nat × Nat))
def AL.blocks (A : AL) : List Nat := A.filterMap fun p => p.2.map (·.1)
theorem AL.blocks_append (A B : AL) : AL.blocks (A ++ B) = A.blocks ++ B.blocks := by simp [AL.blocks]
abbrev keys {α : Type} (l : List (Nat × α)) : List Nat := l.map (·.1)
structure Agr (A : AL) (o : List (Nat × Ob)) (K : Nat → Option Kd) (Q : QM) : Prop where
  q : ∀ i p, (i, p) ∈ A → Q i = p
  k : ∀ i ob, (i, ob) ∈ o → K i = some ob.kd
theorem Agr.left {A B : AL} {o o' : List (Nat × Ob)} {K : Nat → Option Kd} {Q : QM} (h : Agr (A ++ B) (o ++ o') K Q) : Agr A o K Q := ⟨fun i p hi => h.q i p (by simp [hi]), fun i ob hi => h.k i ob (by simp [hi])⟩
theorem Agr.right {A B : AL} {o o' : List (Nat × Ob)} {K : Nat → Option Kd} {Q : QM} (h : Agr (A ++ B) (o ++ o') K Q) : Agr B o' K Q := ⟨fun i p hi => h.q i p (by simp [hi]), fun i ob hi => h.k i ob (by simp [hi])⟩
section
variable {P : Program} {w : World} {Im : IM}
structure Made (P : Program) (w : World) (Im : IM) (o : List (Nat × Ob)) (A : AL) (bs : List Nat) (n n' : Nat) (Φ : (Nat → Option Kd) → QM → Prop) : Prop where
  ks : keys A = keys o
  bl : A.blocks = bs
  le : n ≤ n'
  rng : ∀ i ∈ keys o, n ≤ i ∧ i < n'
  nd : (keys o).Nodup
  val : ∀ K Q, Agr A o K Q → Φ K Q ∧ ∀ i ob, (i, ob) ∈ o → ObR P w Im K Q i ob
theorem Made.zero {n : Nat} {Φ : (Nat → Option Kd) → QM → Prop} (h : ∀ K Q, Φ K Q) : Made P w Im [] [] [] n n Φ :=
  ⟨rfl, rfl, Nat.le_refl _, fun i h => (by cases h), List.nodup_nil, fun K Q _ => ⟨h K Q, fun i ob h => (by cases h)⟩⟩
theorem Made.app {o o' : List (Nat × Ob)} {A A' : AL} {bs bs' : List Nat} {n n' n'' : Nat} {Φ Ψ : (Nat → Option Kd) → QM → Prop} (h : Made P w Im o A bs n n' Φ) (h' : Made P w Im o' A' bs' n' n'' Ψ) :
    Made P w Im (o ++ o') (A ++ A') (bs ++ bs') n n'' (fun K Q => Φ K Q ∧ Ψ K Q) where
  ks := by have h1 := h.ks; have h2 := h'.ks; simp only [keys, List.map_append] at *; rw [h1, h2]
  bl := by rw [AL.blocks_append, h.bl, h'.bl]
  le := Nat.le_trans h.le h'.le
  rng := fun i hi => by
    simp only [keys, List.map_append, List.mem_append] at hi
    have h1 := h.le
    have h2 := h'.le
    rcases hi with hi | hi
    · have := h.rng i hi; omega
    · have := h'.rng i hi; omega
  nd := by
    simp only [keys, List.map_append]
    refine List.nodup_append.2 ⟨h.nd, h'.nd, fun a ha b hb hab => ?_⟩
    subst hab
    have := h.rng a ha
    have := h'.rng a hb
    omega
  val := fun K Q hk => by
    obtain ⟨h1, h2⟩ := h.val K Q hk.left
    obtain ⟨h3, h4⟩ := h'.val K Q hk.right
    refine ⟨⟨h1, h3⟩, fun i ob hi => ?_⟩
    rcases List.mem_append.1 hi with hi | hi
    · exact h2 i ob hi
    · exact h4 i ob hi
theorem Made.imp {o : List (Nat × Ob)} {A : AL} {bs : List Nat} {n n' : Nat} {Φ Ψ : (Nat → Option Kd) → QM → Prop} (h : Made P w Im o A bs n n' Φ) (hi : ∀ K Q, Φ K Q → Ψ K Q) : Made P w Im o A bs n n' Ψ :=
  ⟨h.ks, h.bl, h.le, h.rng, h.nd, fun K Q hk => ⟨hi K Q (h.val K Q hk).1, (h.val K Q hk).2⟩⟩
theorem lfD_sound : ∀ {l : Lf} {x : l.sh.ty} {n n' : Nat} {d : D} {o : List (Nat × Ob)} {u : Value} {bs : List Nat}, lfD l x n = (d, o, n') → LfR P w Im l x u bs → ∃ A, Made P w Im o A bs n n' fun K Q => DR P w Im K Q d u
  | .r sh, x, n, n', d, o, u, bs, h, hr => by
    simp only [lfD] at h; cases h
    simp only [LfR] at hr
    obtain ⟨rfl, hr⟩ := hr
    exact ⟨[], Made.zero fun K Q => by simp only [DR]; exact hr⟩
  | .o rs, x, n, n', d, o, u, bs, h, hr => by
    simp only [lfD] at h; cases h
    simp only [LfR] at hr
    rcases hr with ⟨rfl, rfl, rfl⟩ | ⟨b, o, cap, cs, e, fz, rfl, rfl, h1, h2, h3, h4, h5⟩
    · refine ⟨[(n, none)], rfl, rfl, by omega, fun i hi => by simp [keys] at hi; omega, by simp [keys], fun K Q hk => ⟨?_, fun i ob hi => ?_⟩⟩
      · simp only [DR]
        refine ⟨rfl, fun n2 len hk2 => .inl ⟨hk.q n none (by simp), ?_, rfl⟩⟩
        rw [hk.k n (.buf rs []) (by simp)] at hk2
        cases hk2; rfl
      · simp at hi
        obtain ⟨rfl, rfl⟩ := hi
        exact .inl ⟨hk.q i none (by simp), rfl⟩
    · refine ⟨[(n, some (b, o))], rfl, rfl, by omega, fun i hi => by simp [keys] at hi; omega, by simp [keys], fun K Q hk => ⟨?_, fun i ob hi => ?_⟩⟩
      · simp only [DR]
        refine ⟨rfl, fun n2 len hk2 => .inr ⟨b, o, cap, hk.q n _ (by simp), ?_⟩⟩
        rw [hk.k n (.buf rs x) (by simp)] at hk2
        cases hk2
        exact ⟨rfl, h1, by simpa only [bsize, h2] using h4⟩
      · simp at hi
        obtain ⟨rfl, rfl⟩ := hi
        have hle : o + List.length x * rs.length ≤ cs.size := Nat.le_trans (Nat.add_le_add_left (Nat.mul_le_mul_right _ h1) _) h4
        refine .inr ⟨b, o, cs, e, fz, hk.q i _ (by simp), h2, h3, hle, fun j r hr => ?_⟩
        obtain ⟨vs, h6, h7⟩ := h5 j r hr
        refine ⟨vs, h6, fun k u hk => ?_⟩
        have := h7 k u hk
        simp only [World.cell?, h2, Option.isSome_none, Bool.false_eq_true, if_false] at this
        exact this
theorem lfsD_sound : ∀ {ls : List Lf} {x : tyL (lfShs ls)} {n n' : Nat} {ds : List D} {o : List (Nat × Ob)} {us : List Value} {bs : List Nat}, lfsD ls x n = (ds, o, n') → LfsR P w Im ls x us bs →
    ∃ A, Made P w Im o A bs n n' fun K Q => DRL P w Im K Q ds us
  | [], x, n, n', ds, o, us, bs, h, hr => by
    simp only [lfsD] at h; cases h
    simp only [LfsR] at hr
    obtain ⟨rfl, rfl⟩ := hr
    exact ⟨[], Made.zero fun K Q => by simp only [DRL]⟩
  | [a], x, n, n', ds, o, us, bs, h, hr => by
    simp only [lfsD] at h
    generalize hd : lfD a x n = q at h
    obtain ⟨d, o1, n1⟩ := q
    cases h
    simp only [LfsR] at hr
    obtain ⟨v, rfl, hr⟩ := hr
    obtain ⟨A, hA⟩ := lfD_sound hd hr
    exact ⟨A, hA.imp fun K Q h => by simp only [DRL]; exact ⟨v, [], rfl, h, rfl⟩⟩
  | a :: c :: r, x, n, n', ds, o, us, bs, h, hr => by
    simp only [lfsD] at h
    generalize hd : lfD a x.1 n = q at h
    obtain ⟨d, o1, n1⟩ := q
    dsimp only at h
    generalize hd2 : lfsD (c :: r) x.2 n1 = q at h
    obtain ⟨d2, o2, n2⟩ := q
    cases h
    simp only [LfsR] at hr
    obtain ⟨v, vs', b1, b2, rfl, rfl, h1, h2⟩ := hr
    obtain ⟨A, hA⟩ := lfD_sound hd h1
    obtain ⟨B, hB⟩ := lfsD_sound hd2 h2
    exact ⟨A ++ B, (hA.app hB).imp fun K Q h => by rw [DRL]; exact ⟨v, vs', rfl, h.1, h.2⟩⟩
theorem Made.box {o : List (Nat × Ob)} {A : AL} {bs : List Nat} {n n' : Nat} {ds : List D} {vs : List Value} {b : Nat} {e : TypeId} {fz : Nat × Nat} (h : Made P w Im o A bs (n + 1) n' fun K Q => DRL P w Im K Q ds vs)
    (hb : w.heap[b]? = some (.cells (List.toArray vs) e fz)) (hfz : free fz vs.length) : Made P w Im ((n, .box ds) :: o) ((n, some (b, 0)) :: A) (b :: bs) n n' fun K Q => DR P w Im K Q (.ptr n 0) (.pointer (some ⟨b, 0, none⟩)) where
  ks := by simp only [keys, List.map_cons] at *; have := h.ks; simp only [keys] at this; rw [this]
  bl := by have := h.bl; simp only [AL.blocks, List.filterMap_cons, Option.map_some] at *; rw [this]
  le := by have := h.le; omega
  rng := fun i hi => by
    have h1 := h.le
    simp only [keys, List.map_cons, List.mem_cons] at hi
    rcases hi with rfl | hi
    · omega
    · have := h.rng i hi; omega
  nd := by
    simp only [keys, List.map_cons]
    refine List.nodup_cons.2 ⟨fun hi => ?_, h.nd⟩
    have := h.rng n hi
    omega
  val := fun K Q hk => by
    have hq := hk.q n _ (List.mem_cons_self)
    have hk1 := hk.k n _ (List.mem_cons_self)
    obtain ⟨h1, h2⟩ := h.val K Q ⟨fun i p hi => hk.q i p (List.mem_cons_of_mem _ hi), fun i ob hi => hk.k i ob (List.mem_cons_of_mem _ hi)⟩
    refine ⟨?_, fun i ob hi => ?_⟩
    · simp only [DR]
      exact ⟨rfl, fun _ => ⟨b, hq, rfl⟩⟩
    · rcases List.mem_cons.1 hi with hi | hi
      · cases hi
        exact ⟨b, vs, e, fz, hq, hb, hfz, h1⟩
      · exact h2 i ob hi
theorem parD_sound : ∀ {p : Par} {x : p.ty} {n n' : Nat} {d : D} {o : List (Nat × Ob)} {u : Value} {bs bx : List Nat}, parD p x n = (d, o, n') → ParR P w Im p x u bs bx → ∃ A, Made P w Im o A bs n n' fun K Q => DR P w Im K Q d u
  | .one l, x, n, n', d, o, u, bs, bx, h, hr => by
    simp only [parD] at h
    simp only [ParR] at hr
    exact lfD_sound h hr.2
  | .agg ls, x, n, n', d, o, u, bs, bx, h, hr => by
    simp only [parD] at h
    generalize hd : lfsD ls x n = q at h
    obtain ⟨d1, o1, n1⟩ := q
    cases h
    simp only [ParR] at hr
    obtain ⟨_, vs, rfl, hr⟩ := hr
    obtain ⟨A, hA⟩ := lfsD_sound hd hr
    exact ⟨A, hA.imp fun K Q h => by simp only [DR]; exact ⟨vs, rfl, h⟩⟩
  | .box ls, x, n, n', d, o, u, bs, bx, h, hr => by
    simp only [parD] at h
    generalize hd : lfsD ls x (n + 1) = q at h
    obtain ⟨d1, o1, n1⟩ := q
    cases h
    simp only [ParR] at hr
    obtain ⟨b, vs, bs', e, fz, rfl, rfl, rfl, hb, hfz, hr⟩ := hr
    obtain ⟨A, hA⟩ := lfsD_sound hd hr
    exact ⟨_, hA.box hb hfz⟩
structure MadeB (P : Program) (w : World) (Im : IM) (o : List (Nat × Ob)) (A : AL) (bs ids bx : List Nat) (n n' : Nat) (Φ : (Nat → Option Kd) → QM → Prop) : Prop where
  ks : keys A = keys o
  bl : A.blocks = bs
  le : n ≤ n'
  rng : ∀ i ∈ keys o, (n ≤ i ∧ i < n') ∨ i ∈ ids
  nd : ids.Nodup → (∀ i ∈ ids, ¬ (n ≤ i ∧ i < n')) → (keys o).Nodup
  bxs : ∀ i p, (i, p) ∈ A → i ∈ ids → ¬ (n ≤ i ∧ i < n') → ∃ (j b : Nat), ids[j]? = some i ∧ bx[j]? = some b ∧ p = some (b, 0)
  obs : ∀ i ob, (i, ob) ∈ o → i ∈ ids → ¬ (n ≤ i ∧ i < n') → ob.kd = .box
  val : ∀ K Q, Agr A o K Q → Φ K Q ∧ ∀ i ob, (i, ob) ∈ o → ObR P w Im K Q i ob
theorem Made.toB {o : List (Nat × Ob)} {A : AL} {bs : List Nat} {n n' : Nat} {Φ : (Nat → Option Kd) → QM → Prop} (h : Made P w Im o A bs n n' Φ) (ids bx : List Nat) : MadeB P w Im o A bs ids bx n n' Φ where
  ks := h.ks
  bl := h.bl
  le := h.le
  rng := fun i hi => .inl (h.rng i hi)
  nd := fun _ _ => h.nd
  bxs := fun i p hi _ hn => by
    have : i ∈ keys o := by rw [← h.ks]; exact List.mem_map.2 ⟨_, hi, rfl⟩
    exact absurd (h.rng i this) hn
  obs := fun i ob hi _ hn => by
    have : i ∈ keys o := List.mem_map.2 ⟨_, hi, rfl⟩
    exact absurd (h.rng i this) hn
  val := h.val
theorem MadeB.imp {o : List (Nat × Ob)} {A : AL} {bs ids bx : List Nat} {n n' : Nat} {Φ Ψ : (Nat → Option Kd) → QM → Prop} (h : MadeB P w Im o A bs ids bx n n' Φ) (hi : ∀ K Q, Φ K Q → Ψ K Q) : MadeB P w Im o A bs ids bx n n' Ψ :=
  ⟨h.ks, h.bl, h.le, h.rng, h.nd, h.bxs, h.obs, fun K Q hk => ⟨hi K Q (h.val K Q hk).1, (h.val K Q hk).2⟩⟩
theorem MadeB.app {o o' : List (Nat × Ob)} {A A' : AL} {bs bs' ids bx : List Nat} {n n' n'' : Nat} {Φ Ψ : (Nat → Option Kd) → QM → Prop} (h : Made P w Im o A bs n n' Φ) (h' : MadeB P w Im o' A' bs' ids bx n' n'' Ψ) :
    MadeB P w Im (o ++ o') (A ++ A') (bs ++ bs') ids bx n n'' (fun K Q => Φ K Q ∧ Ψ K Q) where
  ks := by have h1 := h.ks; have h2 := h'.ks; simp only [keys, List.map_append] at *; rw [h1, h2]
  bl := by rw [AL.blocks_append, h.bl, h'.bl]
  le := Nat.le_trans h.le h'.le
  rng := fun i hi => by
    simp only [keys, List.map_append, List.mem_append] at hi
    have h1 := h.le
    have h2 := h'.le
    rcases hi with hi | hi
    · have := h.rng i hi; exact .inl (by omega)
    · rcases h'.rng i hi with h3 | h3
      · exact .inl (by omega)
      · exact .inr h3
  nd := fun h1 h2 => by
    have l1 := h.le
    have l2 := h'.le
    simp only [keys, List.map_append]
    refine List.nodup_append.2 ⟨h.nd, h'.nd h1 (fun i hi hc => h2 i hi (by omega)), fun a ha b hb hab => ?_⟩
    subst hab
    have h3 := h.rng a ha
    rcases h'.rng a hb with h4 | h4
    · omega
    · exact h2 a h4 (by omega)
  bxs := fun i p hi hin hn => by
    have l1 := h.le
    have l2 := h'.le
    rcases List.mem_append.1 hi with hi | hi
    · have : i ∈ keys o := by rw [← h.ks]; exact List.mem_map.2 ⟨_, hi, rfl⟩
      have := h.rng i this
      exact absurd (by omega) hn
    · exact h'.bxs i p hi hin (by omega)
  obs := fun i ob hi hin hn => by
    have l1 := h.le
    have l2 := h'.le
    rcases List.mem_append.1 hi with hi | hi
    · have : i ∈ keys o := List.mem_map.2 ⟨_, hi, rfl⟩
      have := h.rng i this
      exact absurd (by omega) hn
    · exact h'.obs i ob hi hin (by omega)
  val := fun K Q hk => by
    obtain ⟨h1, h2⟩ := h.val K Q hk.left
    obtain ⟨h3, h4⟩ := h'.val K Q hk.right
    refine ⟨⟨h1, h3⟩, fun i ob hi => ?_⟩
    rcases List.mem_append.1 hi with hi | hi
    · exact h2 i ob hi
    · exact h4 i ob hi
theorem MadeB.cons {o o' : List (Nat × Ob)} {A A' : AL} {bs bs' ids bx : List Nat} {n n' n'' id b : Nat} {ds : List D} {vs : List Value} {e : TypeId} {fz : Nat × Nat} {Ψ : (Nat → Option Kd) → QM → Prop} (h : Made P w Im o A bs n n' fun K Q => DRL P w Im K Q ds vs)
    (h' : MadeB P w Im o' A' bs' ids bx n' n'' Ψ) (hb : w.heap[b]? = some (.cells (List.toArray vs) e fz)) (hfz : free fz vs.length) :
    MadeB P w Im ((id, .box ds) :: o ++ o') ((id, some (b, 0)) :: A ++ A') (b :: (bs ++ bs')) (id :: ids) (b :: bx) n n'' Ψ where
  ks := by have h1 := h.ks; have h2 := h'.ks; simp only [keys, List.map_append, List.map_cons, List.cons_append] at *; rw [h1, h2]
  bl := by
    have h1 := h.bl
    have h2 := h'.bl
    simp only [AL.blocks, List.cons_append, List.filterMap_cons, Option.map_some, List.filterMap_append] at *
    rw [h1, h2]
  le := Nat.le_trans h.le h'.le
  rng := fun i hi => by
    simp only [keys, List.cons_append, List.map_cons, List.map_append, List.mem_cons, List.mem_append] at hi
    have h1 := h.le
    have h2 := h'.le
    rcases hi with rfl | hi | hi
    · exact .inr (by simp)
    · have := h.rng i hi; exact .inl (by omega)
    · rcases h'.rng i hi with h3 | h3
      · exact .inl (by omega)
      · exact .inr (by simp [h3])
  nd := fun h1 h2 => by
    have l1 := h.le
    have l2 := h'.le
    obtain ⟨h3, h4⟩ := List.nodup_cons.1 h1
    have hid := h2 id (by simp)
    simp only [keys, List.cons_append, List.map_cons, List.map_append]
    refine List.nodup_cons.2 ⟨fun hi => ?_, List.nodup_append.2 ⟨h.nd, h'.nd h4 (fun i hi hc => h2 i (by simp [hi]) (by omega)), fun a ha b hb hab => ?_⟩⟩
    · rcases List.mem_append.1 hi with hi | hi
      · have := h.rng id hi; exact hid (by omega)
      · rcases h'.rng id hi with h5 | h5
        · exact hid (by omega)
        · exact h3 h5
    · subst hab
      have h5 := h.rng a ha
      rcases h'.rng a hb with h6 | h6
      · omega
      · exact h2 a (by simp [h6]) (by omega)
  bxs := fun i p hi hin hn => by
    have l1 := h.le
    have l2 := h'.le
    simp only [List.cons_append, List.mem_cons, List.mem_append] at hi
    rcases hi with hi | hi | hi
    · cases hi; exact ⟨0, b, rfl, rfl, rfl⟩
    · have : i ∈ keys o := by rw [← h.ks]; exact List.mem_map.2 ⟨_, hi, rfl⟩
      have := h.rng i this
      exact absurd (by omega) hn
    · have : i ∈ keys o' := by rw [← h'.ks]; exact List.mem_map.2 ⟨_, hi, rfl⟩
      rcases h'.rng i this with h6 | h6
      · exact absurd (by omega) hn
      · obtain ⟨j, b2, h7, h8, h9⟩ := h'.bxs i p hi h6 (by omega)
        exact ⟨j + 1, b2, by simpa using h7, by simpa using h8, h9⟩
  obs := fun i ob hi hin hn => by
    have l1 := h.le
    have l2 := h'.le
    simp only [List.cons_append, List.mem_cons, List.mem_append] at hi
    rcases hi with hi | hi | hi
    · cases hi; rfl
    · have : i ∈ keys o := List.mem_map.2 ⟨_, hi, rfl⟩
      have := h.rng i this
      exact absurd (by omega) hn
    · have : i ∈ keys o' := List.mem_map.2 ⟨_, hi, rfl⟩
      rcases h'.rng i this with h6 | h6
      · exact absurd (by omega) hn
      · exact h'.obs i ob hi h6 (by omega)
  val := fun K Q hk => by
    obtain ⟨h1, h2⟩ := h.val K Q ⟨fun i p hi => hk.q i p (by simp [hi]), fun i ob hi => hk.k i ob (by simp [hi])⟩
    obtain ⟨h3, h4⟩ := h'.val K Q ⟨fun i p hi => hk.q i p (by simp [hi]), fun i ob hi => hk.k i ob (by simp [hi])⟩
    refine ⟨h3, fun i ob hi => ?_⟩
    simp only [List.cons_append, List.mem_cons, List.mem_append] at hi
    rcases hi with hi | hi | hi
    · cases hi
      exact ⟨b, vs, e, fz, hk.q id _ (by simp), hb, hfz, h1⟩
    · exact h2 i ob hi
    · exact h4 i ob hi
theorem backD_sound : ∀ {ps : List Par} {x : parTy ps} {ids : List Nat} {n n' : Nat} {o : List (Nat × Ob)} {bx bs : List Nat}, backD ps x ids n = some (o, n') → BackR P w Im ps x bx bs →
    ∃ A, MadeB P w Im o A bs ids bx n n' (fun _ _ => True)
  | [], x, [], n, n', o, bx, bs, h, hr => by
    simp only [backD] at h; cases h
    simp only [BackR] at hr
    obtain ⟨rfl, rfl⟩ := hr
    exact ⟨[], Made.toB (bs := []) (Made.zero fun _ _ => trivial) [] []⟩
  | [.agg ls], x, [id], n, n', o, bx, bs, h, hr => by
    simp only [backD] at h
    generalize hd : lfsD ls x n = q at h
    obtain ⟨d1, o1, n1⟩ := q
    cases h
    simp only [BackR] at hr
    obtain ⟨b, vs, bs', e, fz, rfl, rfl, hb, hfz, hr⟩ := hr
    obtain ⟨A, hA⟩ := lfsD_sound hd hr
    have := MadeB.cons (id := id) hA ((Made.zero (P := P) (w := w) (Im := Im) (n := n1) (Φ := fun _ _ => True) fun _ _ => trivial).toB (bs := []) [] []) hb hfz
    simp only [List.append_nil] at this
    exact ⟨_, this⟩
  | .agg ls :: q :: r, x, id :: ids, n, n', o, bx, bs, h, hr => by
    simp only [backD] at h
    generalize hd : lfsD ls x.1 n = q1 at h
    obtain ⟨d1, o1, n1⟩ := q1
    dsimp only at h
    split at h
    · rename_i o2 n2 h2
      cases h
      simp only [BackR] at hr
      obtain ⟨b, bx', vs, bs', bs2, e, fz, rfl, rfl, hb, hfz, hr, hr2⟩ := hr
      obtain ⟨A, hA⟩ := lfsD_sound hd hr
      obtain ⟨B, hB⟩ := backD_sound h2 hr2
      exact ⟨_, MadeB.cons (id := id) hA hB hb hfz⟩
    · cases h
  | [], x, _ :: _, n, n', o, bx, bs, h, hr => by simp [backD] at h
  | [.agg ls], x, [], n, n', o, bx, bs, h, hr => by simp [backD] at h
  | [.agg ls], x, _ :: _ :: _, n, n', o, bx, bs, h, hr => by simp [backD] at h
  | .agg ls :: q :: r, x, [], n, n', o, bx, bs, h, hr => by simp [backD] at h
  | .one _ :: r, x, ids, n, n', o, bx, bs, h, hr => by cases r <;> simp [backD] at h
  | .box _ :: r, x, ids, n, n', o, bx, bs, h, hr => by cases r <;> simp [backD] at h
theorem outsD_sound : ∀ {nr : Nat} {ps : List Par} {x : parTy ps} {ids : List Nat} {n n' : Nat} {rs : List D} {o : List (Nat × Ob)} {us : List Value} {bx bs : List Nat}, outsD nr ps x ids n = some (rs, o, n') → OutR P w Im nr ps x us bx bs →
    ∃ A, MadeB P w Im o A bs ids bx n n' (fun K Q => DRL P w Im K Q rs us)
  | 0, ps, x, ids, n, n', rs, o, us, bx, bs, h, hr => by
    simp only [outsD, Option.map_eq_some_iff, Prod.mk.injEq] at h
    obtain ⟨⟨o1, n1⟩, h1, rfl, rfl, rfl⟩ := h
    simp only [OutR] at hr
    obtain ⟨rfl, hr⟩ := hr
    obtain ⟨A, hA⟩ := backD_sound h1 hr
    exact ⟨A, hA.imp fun K Q _ => by simp only [DRL]⟩
  | 1, [p], x, [], n, n', rs, o, us, bx, bs, h, hr => by
    simp only [outsD] at h
    generalize hd : parD p x n = q at h
    obtain ⟨d1, o1, n1⟩ := q
    cases h
    simp only [OutR] at hr
    obtain ⟨rfl, u, bx', rfl, hr⟩ := hr
    obtain ⟨A, hA⟩ := parD_sound hd hr
    exact ⟨A, (hA.toB (bs := bs) [] []).imp fun K Q h => by simp only [DRL]; exact ⟨u, [], rfl, h, rfl⟩⟩
  | nr + 1, p :: q :: r, x, ids, n, n', rs, o, us, bx, bs, h, hr => by
    simp only [outsD] at h
    generalize hd : parD p x.1 n = q1 at h
    obtain ⟨d1, o1, n1⟩ := q1
    dsimp only at h
    split at h
    · rename_i ds o2 n2 h2
      cases h
      simp only [OutR] at hr
      obtain ⟨u, us', b1, b2, bx', rfl, rfl, h3, h4⟩ := hr
      obtain ⟨A, hA⟩ := parD_sound hd h3
      obtain ⟨B, hB⟩ := outsD_sound h2 h4
      exact ⟨_, (MadeB.app hA hB).imp fun K Q h => by rw [DRL]; exact ⟨u, us', rfl, h.1, h.2⟩⟩
    · cases h
  | nr + 1, [], x, ids, n, n', rs, o, us, bx, bs, h, hr => by cases nr <;> simp [outsD] at h
  | nr + 2, [p], x, ids, n, n', rs, o, us, bx, bs, h, hr => by simp [outsD] at h
  | 1, [p], x, _ :: _, n, n', rs, o, us, bx, bs, h, hr => by simp [outsD] at h
end
end Go.Ev
