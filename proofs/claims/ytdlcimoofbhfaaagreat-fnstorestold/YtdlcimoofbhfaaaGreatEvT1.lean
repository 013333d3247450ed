/- A part of the proof. -/
import Derived.Test.YtdlcimoofbhfaaaGreatEvQ6
set_option linter.all false
set_option linter.constructorNameAsVariable false
set_option linter.unusedVariables false
set_option linter.unusedSimpArgs false
namespace Go.Ev
theorem find_id : ∀ {hp : Heap} {id : Nat} {h : HO}, hp.find id = some h → h.id = id
  | x :: r, id, h, hf => by
    simp only [Heap.find] at hf
    split at hf
    · rename_i e; cases hf; exact e
    · exact find_id hf
theorem find_del : ∀ (hp : Heap) (n i : Nat), (hp.del n).find i = if i = n then none else hp.find i
  | [], n, i => by simp [Heap.del, Heap.find]
  | x :: r, n, i => by
    simp only [Heap.del]
    split
    · rename_i e
      rw [find_del r n i]
      simp only [Heap.find]
      by_cases h : i = n
      · simp [h]
      · rw [if_neg h, if_neg h, if_neg (by rw [e]; exact fun h' => h h'.symm)]
    · rename_i e
      simp only [Heap.find]
      rw [find_del r n i]
      by_cases h : i = n
      · subst h; simp [e]
      · simp [h]
theorem find_dels : ∀ (l : List Nat) (hp : Heap) (i : Nat), (hp.dels l).find i = if i ∈ l then none else hp.find i
  | [], hp, i => by simp [Heap.dels]
  | n :: r, hp, i => by
    simp only [Heap.dels]
    rw [find_dels r, find_del]
    by_cases h : i ∈ r
    · simp [h]
    · by_cases h' : i = n <;> simp [h, h']
theorem find_put : ∀ (hp : Heap) (n : Nat) (o : Ob) (i : Nat), (hp.put n o).find i = if i = n then some ⟨n, (match hp.find n with | some h => h.ro | none => false), o⟩ else hp.find i
  | [], n, o, i => by
    simp only [Heap.put, Heap.find]
    by_cases h : n = i
    · subst h; simp
    · rw [if_neg h, if_neg (fun h' => h h'.symm)]
  | x :: r, n, o, i => by
    simp only [Heap.put]
    split
    · rename_i e
      simp only [Heap.find]
      by_cases h : i = n
      · subst h; simp [e]
      · rw [if_neg h, if_neg (fun h' => h h'.symm), if_neg (by rw [e]; exact fun h' => h h'.symm)]
    · rename_i e
      simp only [Heap.find]
      rw [find_put r n o i]
      by_cases h : i = n
      · subst h; simp [e]
      · simp [h]
theorem find_puts : ∀ (l : List (Nat × Ob)) (hp : Heap) (i : Nat), (∀ k ∈ keys l, ∀ h, hp.find k = some h → h.ro = false) → (hp.puts l).find i = match look l i with | some o => some ⟨i, false, o⟩ | none => hp.find i
  | [], hp, i, h => by simp [Heap.puts, look]
  | (n, o) :: r, hp, i, h => by
    have ih := fun i => find_puts r hp i (fun k hk => h k (List.mem_cons_of_mem _ hk))
    simp only [Heap.puts, look]
    rw [find_put]
    by_cases e : i = n
    · subst e
      rw [if_pos rfl, if_pos rfl, ih i]
      congr 2
      cases e2 : look r i with
      | some o' => rfl
      | none =>
        dsimp only
        cases e3 : hp.find i with
        | none => rfl
        | some h' => exact h i (by simp [keys]) h' e3
    · rw [if_neg e, if_neg (fun h' => e h'.symm), ih i]
theorem find_app {hp : Heap} {δ : Dl} (h : ∀ k ∈ keys δ.put, ∀ h, hp.find k = some h → h.ro = false) : (hp.app δ).find = Hp.app hp.find δ := by
  funext i
  unfold Heap.app
  rw [find_puts]
  · simp only [Hp.app]
    cases look δ.put i with
    | some o => rfl
    | none => dsimp only; rw [find_dels]
  · intro k hk h' hf
    rw [find_dels] at hf
    split at hf
    · cases hf
    · exact h k hk h' hf
structure Inv (P : Program) (σ : LSt) (B : Nat) (a : Act) (w : World) (Q : QM) (Im : IM) : Prop where
  wr : WR P σ.hp.find Q Im w
  val : ∀ x, DR P w Im (Hp.kd σ.hp.find) Q (σ.val x) (a.eval x)
  ob : ∀ id h, σ.hp.find id = some h → id < B ∧ ∀ i ∈ obIds h.ob, i < B
  vb : ∀ x, ∀ i ∈ idsD (σ.val x), i < B
structure Since (B0 : Nat) (H0 : Hp) (Q0 : QM) (Im0 : IM) (w0 : World) (H : Hp) (Q : QM) (Im : IM) (w : World) : Prop where
  qt : outside w = outside w0
  size : w0.heap.size ≤ w.heap.size
  kept : ∀ b, b < w0.heap.size → (∀ id h o, H0 id = some h → Q0 id = some (b, o) → False) → w.heap[b]? = w0.heap[b]?
  own : ∀ id h b o, H id = some h → Q id = some (b, o) → w0.heap.size ≤ b ∨ ∃ id h o, H0 id = some h ∧ Q0 id = some (b, o)
  im : ∀ b, Im b → Im0 b ∨ w0.heap.size ≤ b ∨ ∃ id h o, H0 id = some h ∧ Q0 id = some (b, o)
  im0 : ∀ b, Im0 b → Im b ∧ w.heap[b]? = w0.heap[b]?
  refs : ∀ id, id < B0 → RefOk w0 w H0.kd H.kd Q0 Q id
  ro : ∀ id h, H0 id = some h → h.ro = true → H id = some h
section
variable {P : Program} {c : Ctx} {w w' w0 w1 w2 : World} {Q Q' Q0 Q1 Q2 : QM} {Im Im' Im0 Im1 Im2 : IM} {H H' H0 H1 H2 : Hp}
theorem Since.refl {B : Nat} : Since B H Q Im w H Q Im w where
  qt := rfl
  size := Nat.le_refl _
  kept := fun _ _ _ => rfl
  own := fun id h b o h1 h2 => .inr ⟨id, h, o, h1, h2⟩
  im := fun b h => .inl h
  im0 := fun b h => ⟨h, rfl⟩
  refs := fun id _ => ⟨.inr ⟨rfl, rfl, fun b o _ => .inr rfl⟩⟩
  ro := fun id h h1 _ => h1
theorem RefOk.trans {K0 K1 K2 : Nat → Option Kd} {id : Nat} (h : RefOk w0 w1 K0 K1 Q0 Q1 id) (h' : RefOk w1 w2 K1 K2 Q1 Q2 id) : RefOk w0 w2 K0 K2 Q0 Q2 id := by
  rcases h'.same with h2 | ⟨h2, h3, h4⟩
  · exact ⟨.inl h2⟩
  · rcases h.same with h5 | ⟨h5, h6, h7⟩
    · exact ⟨.inl (by rw [h2, h5])⟩
    · refine ⟨.inr ⟨by rw [h2, h5], by rw [h3, h6], fun b o hb => ?_⟩⟩
      rcases h7 b o hb with h8 | h8
      · exact .inl h8
      · rcases h4 b o (by rw [h6]; exact hb) with h9 | h9
        · exact .inl (by rw [← h5]; exact h9)
        · exact .inr (by rw [h9, h8])
theorem Since.trans {B0 B1 : Nat} (h : Since B0 H0 Q0 Im0 w0 H1 Q1 Im1 w1) (h' : Since B1 H1 Q1 Im1 w1 H2 Q2 Im2 w2) (hB : B0 ≤ B1) : Since B0 H0 Q0 Im0 w0 H2 Q2 Im2 w2 where
  qt := h'.qt.trans h.qt
  size := Nat.le_trans h.size h'.size
  kept := fun b hb hn => by
    rw [h'.kept b (Nat.lt_of_lt_of_le hb h.size) (fun id x o h1 h2 => ?_), h.kept b hb hn]
    rcases h.own id x b o h1 h2 with h3 | ⟨i, y, o', h3, h4⟩
    · omega
    · exact hn i y o' h3 h4
  own := fun id x b o h1 h2 => by
    rcases h'.own id x b o h1 h2 with h3 | ⟨i, y, o', h3, h4⟩
    · exact .inl (Nat.le_trans h.size h3)
    · exact h.own i y b o' h3 h4
  im := fun b hb => by
    rcases h'.im b hb with h3 | h3 | ⟨i, y, o', h3, h4⟩
    · exact h.im b h3
    · exact .inr (.inl (Nat.le_trans h.size h3))
    · exact .inr (h.own i y b o' h3 h4)
  im0 := fun b hb => ⟨(h'.im0 b (h.im0 b hb).1).1, by rw [(h'.im0 b (h.im0 b hb).1).2, (h.im0 b hb).2]⟩
  refs := fun id hid => (h.refs id hid).trans (h'.refs id (Nat.lt_of_lt_of_le hid hB))
  ro := fun id x h1 h2 => h'.ro id x (h.ro id x h1 h2) h2
theorem Trans.since {ids : List Nat} {nid B : Nat} (h : Trans H H' Q Q' Im Im' w w' ids nid) (hB : B ≤ nid) : Since B H Q Im w H' Q' Im' w' where
  qt := h.qt
  size := h.grow
  kept := h.old
  own := h.own
  im := h.imr
  im0 := h.imm
  refs := fun id hid => h.refs id (by omega)
  ro := fun id x h1 h2 => by
    by_cases hi : id ∈ ids
    · have := h.rof id x hi h1; rw [h2] at this; cases this
    · rw [(h.out id hi).1]; exact h1
structure TK (D : List Nat) (a a' : Act) : Prop where
  same : ∀ s, s ∉ D → a'.tmps.getD s undef = a.tmps.getD s undef
  size : a'.tmps.size = a.tmps.size
  def_ : a'.defers = a.defers
theorem TK.refl {D : List Nat} {a : Act} : TK D a a := ⟨fun _ _ => rfl, rfl, rfl⟩
theorem TK.trans {D : List Nat} {a b c : Act} (h : TK D a b) (h' : TK D b c) : TK D a c := ⟨fun s hs => by rw [h'.same s hs, h.same s hs], by rw [h'.size, h.size], by rw [h'.def_, h.def_]⟩
theorem TK.mono {D E : List Nat} {a b : Act} (h : TK D a b) (hs : ∀ x ∈ D, x ∈ E) : TK E a b := ⟨fun s hn => h.same s (fun hd => hn (hs s hd)), h.size, h.def_⟩
theorem TK.put {D : List Nat} {a : Act} {d : Option Nat} {v : Value} (h : ∀ n, d = some n → n ∈ D) : TK D a (a.put d v) := by
  cases d with
  | none => exact TK.refl
  | some n =>
    refine ⟨fun s hs => ?_, by simp [Act.put], rfl⟩
    have : s ≠ n := by rintro rfl; exact hs (h s rfl)
    simp only [Act.put, Array.getD_eq_getD_getElem?, Array.getElem?_setIfInBounds]
    rw [if_neg (Ne.symm this)]
theorem eval_put {a : Act} {d : Nat} {v : Value} (hd : d < a.tmps.size) (s : Nat) : (a.put (some d) v).eval (.tmp s) = if s = d then v else a.eval (.tmp s) := by
  simp only [Act.eval, Act.put, Array.getD_eq_getD_getElem?, Array.getElem?_setIfInBounds]
  by_cases h : d = s
  · subst h; simp [hd]
  · rw [if_neg h, if_neg (fun h' => h h'.symm)]
theorem get_putLoc (σ : LSt) (d : Nat) (v : D) (dl : Dl) (s : Nat) : (putLoc σ (some d) v dl).get s = if s = d then v else σ.get s := by
  simp only [putLoc, LSt.get, look]
  by_cases h : d = s
  · subst h; simp
  · rw [if_neg h, if_neg (fun h' => h h'.symm)]
theorem idsD_ofVal (v : Value) : idsD (ofVal v) = [] := by
  unfold ofVal
  split <;> simp [idsD]
theorem Inv.fr {σ : LSt} {B nid : Nat} {a : Act} (h : Inv P σ B a w Q Im) (hB : B ≤ nid) : Fr σ.hp.find σ.val nid where
  ob := fun id x h1 i hi hc => by have := (h.ob id x h1).2 i hi; omega
  val := fun y i hi hc => by have := h.vb y i hi; omega
  new := fun i h1 h2 => by
    cases e : σ.hp.find i with
    | none => rfl
    | some x => have := (h.ob i x e).1; omega
theorem Inv.step {σ : LSt} {B : Nat} {a : Act} {x : D × Dl} {u : Value} {dst : Option Nat} (h : Inv P σ B a w Q Im) (hp : Post P σ.hp.find Q Im w B x u w') (hids : idsOk (B + 8) x = true) (hd : ∀ d, dst = some d → d < a.tmps.size) :
    ∃ Q' Im', Inv P (putLoc σ dst x.1 x.2) (B + 8) (a.put dst u) w' Q' Im' ∧ Since B σ.hp.find Q Im w (putLoc σ dst x.1 x.2).hp.find Q' Im' w' := by
  obtain ⟨Q', Im', hw, ht, hdr⟩ := hp
  have hfa : (σ.hp.app x.2).find = Hp.app σ.hp.find x.2 := find_app fun k hk h' hf => ht.rof k h' (by simp only [Dl.ids, List.mem_append]; exact .inr hk) hf
  have hhp : (putLoc σ dst x.1 x.2).hp = σ.hp.app x.2 := by cases dst <;> rfl
  simp only [idsOk, Bool.and_eq_true, List.all_eq_true, decide_eq_true_eq] at hids
  have hold : ∀ y, DR P w' Im' (Hp.kd (Hp.app σ.hp.find x.2)) Q' (σ.val y) (a.eval y) := fun y =>
    DR_mono ht.imm _ _ (fun i hi => ht.refs i (by have := h.vb y i hi; omega)) (h.val y)
  refine ⟨Q', Im', ⟨?_, ?_, ?_, ?_⟩, ?_⟩
  · rw [hhp, hfa]; exact hw
  · rw [hhp, hfa]
    intro y
    cases y with
    | tmp s =>
      cases dst with
      | none => exact hold (.tmp s)
      | some d =>
        simp only [LSt.val]
        rw [get_putLoc, eval_put (hd d rfl)]
        by_cases e : s = d
        · rw [if_pos e, if_pos e]; exact hdr
        · rw [if_neg e, if_neg e]; exact hold (.tmp s)
    | const v => have := hold (.const v); cases dst <;> exact this
    | func f => have := hold (.func f); cases dst <;> exact this
    | global g => have := hold (.global g); cases dst <;> exact this
  · rw [hhp, hfa]
    intro id h' hf
    simp only [Hp.app] at hf
    split at hf
    · rename_i ob hl
      cases hf
      have := hids.2 (id, ob) (mem_of_look hl)
      refine ⟨this.1, fun i hi => ?_⟩
      cases ob with
      | box ds =>
        have h2 := this.2
        simp only [List.all_eq_true, decide_eq_true_eq] at h2
        exact h2 i hi
      | buf rs l => cases hi
    · split at hf
      · cases hf
      · have := h.ob id h' hf
        exact ⟨by omega, fun i hi => by have := this.2 i hi; omega⟩
  · have hvb : ∀ y, ∀ i ∈ idsD (σ.val y), i < B + 8 := fun y i hi => by have := h.vb y i hi; omega
    intro y
    cases y with
    | tmp s =>
      cases dst with
      | none => exact hvb (.tmp s)
      | some d =>
        simp only [LSt.val]
        rw [get_putLoc]
        by_cases e : s = d
        · rw [if_pos e]; exact hids.1
        · rw [if_neg e]; exact hvb (.tmp s)
    | const v => have := hvb (.const v); cases dst <;> exact this
    | func f => have := hvb (.func f); cases dst <;> exact this
    | global g => have := hvb (.global g); cases dst <;> exact this
  · rw [hhp, hfa]; exact ht.since (Nat.le_refl _)
theorem Inv.up {σ : LSt} {B B' : Nat} {a : Act} (h : Inv P σ B a w Q Im) (hB : B ≤ B') : Inv P σ B' a w Q Im :=
  ⟨h.wr, h.val, fun id x h1 => ⟨by have := (h.ob id x h1).1; omega, fun i hi => by have := (h.ob id x h1).2 i hi; omega⟩, fun y i hi => by have := h.vb y i hi; omega⟩
theorem Inv.set {σ : LSt} {B : Nat} {a : Act} {t : Nat} {d : D} (h : Inv P σ B a w Q Im) (hd : DR P w Im (Hp.kd σ.hp.find) Q d (a.eval (.tmp t))) (hi : idsD d = []) : Inv P (setLoc σ t d) B a w Q Im := by
  have hg : ∀ s, (setLoc σ t d).get s = if s = t then d else σ.get s := by
    intro s
    simp only [setLoc, LSt.get, look]
    by_cases h : t = s
    · subst h; simp
    · rw [if_neg h, if_neg (fun h' => h h'.symm)]
  refine ⟨h.wr, fun y => ?_, h.ob, fun y => ?_⟩
  · cases y with
    | tmp s =>
      simp only [LSt.val]
      rw [hg]
      by_cases e : s = t
      · subst e; rw [if_pos rfl]; exact hd
      · rw [if_neg e]; exact h.val (.tmp s)
    | const v => exact h.val (.const v)
    | func f => exact h.val (.func f)
    | global g => exact h.val (.global g)
  · cases y with
    | tmp s =>
      simp only [LSt.val]
      rw [hg]
      by_cases e : s = t
      · rw [if_pos e, hi]; intro i hi; cases hi
      · rw [if_neg e]; exact h.vb (.tmp s)
    | const v => exact h.vb (.const v)
    | func f => exact h.vb (.func f)
    | global g => exact h.vb (.global g)
theorem Inv.skip {σ : LSt} {B : Nat} {a : Act} {dst : Option Nat} (h : Inv P σ B a w Q Im) (hd : ∀ d, dst = some d → d < a.tmps.size) : Inv P (skLoc σ dst) B (a.put dst undef) w Q Im := by
  cases dst with
  | none => exact h
  | some d =>
    have hd' := hd d rfl
    have hg : ∀ s, (setLoc σ d .sk).get s = if s = d then .sk else σ.get s := by
      intro s
      simp only [setLoc, LSt.get, look]
      by_cases h : d = s
      · subst h; simp
      · rw [if_neg h, if_neg (fun h' => h h'.symm)]
    refine ⟨h.wr, fun y => ?_, h.ob, fun y => ?_⟩
    · cases y with
      | tmp s =>
        simp only [LSt.val, skLoc]
        rw [hg, eval_put hd']
        by_cases e : s = d
        · rw [if_pos e, if_pos e]; simp only [DR]
        · rw [if_neg e, if_neg e]; exact h.val (.tmp s)
      | const v => exact h.val (.const v)
      | func f => exact h.val (.func f)
      | global g => exact h.val (.global g)
    · cases y with
      | tmp s =>
        simp only [LSt.val, skLoc]
        rw [hg]
        by_cases e : s = d
        · rw [if_pos e]; intro i hi; cases hi
        · rw [if_neg e]; exact h.vb (.tmp s)
      | const v => exact h.vb (.const v)
      | func f => exact h.vb (.func f)
      | global g => exact h.vb (.global g)
end
end Go.Ev
