/- A part of the proof. -/
import Derived.Test.YtdlcimoofbhfaaaGreatEvT1
set_option linter.all false
set_option linter.constructorNameAsVariable false
set_option linter.unusedVariables false
set_option linter.unusedSimpArgs false
namespace Go.Ev
theorem look_setk {α : Type} : ∀ (l : List (Nat × α)) (n : Nat) (x : α) (i : Nat), look (setk l n x) i = if i = n then some x else look l i
  | [], n, x, i => by
    simp only [setk, look]
    by_cases h : n = i
    · subst h; simp
    · rw [if_neg h, if_neg (fun h' => h h'.symm)]
  | (k, y) :: r, n, x, i => by
    simp only [setk]
    split
    · rename_i e
      subst e
      simp only [look]
      by_cases h : k = i
      · subst h; simp
      · rw [if_neg h, if_neg (fun h' => h h'.symm), if_neg h]
    · rename_i e
      simp only [look]
      rw [look_setk r n x i]
      by_cases h : k = i
      · subst h; rw [if_pos rfl, if_neg e, if_pos rfl]
      · rw [if_neg h, if_neg h]
theorem look_remk {α : Type} : ∀ (l : List (Nat × α)) (n : Nat) (i : Nat), look (remk l n) i = if i = n then none else look l i
  | [], n, i => by simp [remk, look]
  | (k, y) :: r, n, i => by
    simp only [remk]
    split
    · rename_i e
      subst e
      rw [look_remk r k i]
      simp only [look]
      by_cases h : i = k
      · subst h; simp
      · rw [if_neg h, if_neg h, if_neg (fun h' => h h'.symm)]
    · rename_i e
      simp only [look]
      rw [look_remk r n i]
      by_cases h : k = i
      · subst h; rw [if_pos rfl, if_neg e, if_pos rfl]
      · rw [if_neg h, if_neg h]
theorem merge_look (keep : List Nat) : ∀ (l tm : List (Nat × D)) (i : Nat) (d : D), look (merge keep l tm) i = some d → (match look l i with | some d' => some d' | none => look tm i) = some d
  | [], tm, i, d, h => by simpa [merge, look] using h
  | (n, x) :: r, tm, i, d, h => by
    simp only [merge] at h
    simp only [look]
    split at h
    · rw [look_setk] at h
      by_cases e : i = n
      · subst e; simpa using h
      · rw [if_neg e] at h
        rw [if_neg (fun h' => e h'.symm)]
        exact merge_look keep r tm i d h
    · rw [look_remk] at h
      by_cases e : i = n
      · subst e; simp at h
      · rw [if_neg e] at h
        rw [if_neg (fun h' => e h'.symm)]
        exact merge_look keep r tm i d h
section
variable {P : Program} {c : Ctx} {w w' : World} {Q Q' : QM} {Im Im' : IM} {R : Type}
theorem get_fin (σ : LSt) (n s : Nat) : (finSt c n σ).get s = σ.get s ∨ (finSt c n σ).get s = .un := by
  simp only [finSt, LSt.get, look]
  cases e : look (merge c.keep σ.loc σ.tm) s with
  | none => exact .inr rfl
  | some d =>
    left
    have := merge_look c.keep σ.loc σ.tm s d e
    dsimp only
    cases e1 : look σ.loc s with
    | some d' => rw [e1] at this; simp at this; exact this.symm
    | none => rw [e1] at this; dsimp only at this ⊢; rw [this]
theorem Inv.fin {σ : LSt} {n : Nat} {a : Act} (h : Inv P σ (σ.nx + 8 * n) a w Q Im) : Inv P (finSt c n σ) (finSt c n σ).nx a w Q Im := by
  refine ⟨h.wr, fun y => ?_, h.ob, fun y => ?_⟩
  · cases y with
    | tmp s =>
      simp only [LSt.val]
      rcases get_fin (c := c) σ n s with e | e
      · rw [e]; exact h.val (.tmp s)
      · rw [e]; simp only [DR]
    | const v => exact h.val (.const v)
    | func f => exact h.val (.func f)
    | global g => exact h.val (.global g)
  · cases y with
    | tmp s =>
      simp only [LSt.val]
      rcases get_fin (c := c) σ n s with e | e
      · rw [e]; exact h.vb (.tmp s)
      · rw [e]; intro i hi; cases hi
    | const v => exact h.vb (.const v)
    | func f => exact h.vb (.func f)
    | global g => exact h.vb (.global g)
theorem sat_chk {okp} {B : Nat} {x : D × Dl} {t : Tr R} {As : Again} {Qf : R → Prop} (h : sat okp (chk B x t) As Qf) : idsOk B x = true ∧ sat okp t As Qf := by
  unfold chk at h
  split at h
  · rename_i hk; exact ⟨hk, h⟩
  · simp [sat] at h
theorem putLoc_nx (σ : LSt) (d : Option Nat) (v : D) (dl : Dl) : (putLoc σ d v dl).nx = σ.nx := by cases d <;> rfl
theorem skLoc_nx (σ : LSt) (d : Option Nat) : (skLoc σ d).nx = σ.nx := by cases d <;> rfl
theorem skLoc_hp (σ : LSt) (d : Option Nat) : (skLoc σ d).hp = σ.hp := by cases d <;> rfl
theorem yielded_of {ops : Array Oper} {tmps : Array Value} {j t : Nat} {b : Bool} (h : guardDst ops j = some t) (hv : tmps.getD t undef = .bool b) : yielded ops tmps j = some b := by
  unfold guardDst at h
  unfold yielded
  split at h
  · rename_i o ho
    rw [ho]
    simp only [Option.bind_some, h]
    rw [Array.getD_eq_getD_getElem?] at hv
    cases e : tmps[t]? with
    | none => rw [e] at hv; simp [undef] at hv
    | some v => rw [e] at hv; simp at hv; subst hv; rfl
  · cases h
theorem yielded_sk {ops : Array Oper} {tmps : Array Value} {j t : Nat} (h : guardDst ops j = some t) (hv : tmps.getD t undef = undef) : yielded ops tmps j = none := by
  unfold guardDst at h
  unfold yielded
  split at h
  · rename_i o ho
    rw [ho]
    simp only [Option.bind_some, h]
    rw [Array.getD_eq_getD_getElem?] at hv
    cases e : tmps[t]? with
    | none => rfl
    | some v => rw [e] at hv; simp at hv; subst hv; rfl
  · cases h
theorem evOps_sound (hc : CtxOk P c) {ops : Array Oper} {Kc : LSt → Tr R} {As : Again} {Qf : R → Prop} {Qp : Exit → Act → World → Prop} :
    ∀ (l : List Oper) (i : Nat) (σ : LSt) (a : Act) (w : World) (Q : QM) (Im : IM), Inv P σ (σ.nx + 8 * i) a w Q Im → (∀ o ∈ l, ∀ d, o.dst = some d → d < a.tmps.size) → sat c.okp (evOps c ops l i σ Kc) As Qf →
      (∀ σ' a' w' Q' Im', σ'.loc = [] → Inv P σ' σ'.nx a' w' Q' Im' → Since (σ.nx + 8 * i) σ.hp.find Q Im w σ'.hp.find Q' Im' w' → TK (l.filterMap (·.dst)) a a' → σ.nx ≤ σ'.nx → sat c.okp (Kc σ') As Qf → Qp .normal a' w') →
      wpList P ops Qp l a w
  | [], i, σ, a, w, Q, Im, hI, hd, hs, hQ => by
    simp only [evOps] at hs
    simp only [wpList]
    exact hQ _ a w Q Im rfl hI.fin (by exact Since.refl) TK.refl (by simp only [finSt]; omega) hs
  | o :: rest, i, σ, a, w, Q, Im, hI, hd, hs, hQ => by
    have hdo := hd o (by simp)
    have hkeep : ∀ n, o.dst = some n → n ∈ (o :: rest).filterMap (·.dst) := fun n hn => by rw [List.filterMap_cons, hn]; simp
    have hrestk : ∀ x ∈ rest.filterMap (·.dst), x ∈ (o :: rest).filterMap (·.dst) := fun x hx => by
      rw [List.filterMap_cons]; split
      · exact hx
      · exact List.mem_cons_of_mem _ hx
    have go : ∀ (σ1 : LSt), Inv P σ1 (σ.nx + 8 * i) a w Q Im → σ1.nx = σ.nx → σ1.hp = σ.hp → Region.wanted o (yielded ops a.tmps) = true →
        sat c.okp ((evOp c σ1.val σ1.hp (σ.nx + 8 * i) o.op).bind fun x => chk (σ.nx + 8 * i + 8) x (evOps c ops rest (i + 1) (putLoc σ1 o.dst x.1 x.2) Kc)) As Qf → wpList P ops Qp (o :: rest) a w := by
      intro σ1 hI1 hnx hhp hw hs1
      obtain ⟨x, hr, hs2⟩ := sat_bind c.okp _ _ hs1
      obtain ⟨hids, hs3⟩ := sat_chk hs2
      have hop := op_sim hc hI1.wr hI1.val (fun _ _ h => h) (hI1.fr (Nat.le_refl _)) hr
      simp only [wpList, hw, if_true]
      left
      refine OpDoes.wp hop fun v w' hp => ?_
      obtain ⟨Q', Im', hI2, hsince⟩ := hI1.step hp hids hdo
      refine evOps_sound hc rest (i + 1) (putLoc σ1 o.dst x.1 x.2) (a.put o.dst v) w' Q' Im' (by rw [putLoc_nx, hnx]; exact hI2) (fun o' ho' d hd' => ?_) hs3 ?_
      · have := hd o' (by simp [ho']) d hd'
        cases hdst : o.dst with
        | none => exact this
        | some _ => simpa [Act.put] using this
      · intro σ' a' w2 Q2 Im2 g0 g1 g2 g3 g4 g5
        rw [putLoc_nx, hnx] at g2 g4
        rw [hhp] at hsince
        exact hQ σ' a' w2 Q2 Im2 g0 g1 (hsince.trans g2 (by omega)) ((TK.put hkeep).trans (g3.mono hrestk)) g4 g5
    have no : ∀ (σ1 : LSt), Inv P σ1 (σ.nx + 8 * i) a w Q Im → σ1.nx = σ.nx → σ1.hp = σ.hp → Region.wanted o (yielded ops a.tmps) = false →
        sat c.okp (evOps c ops rest (i + 1) (skLoc σ1 o.dst) Kc) As Qf → wpList P ops Qp (o :: rest) a w := by
      intro σ1 hI1 hnx hhp hw hs1
      simp only [wpList, hw, Bool.false_eq_true, if_false]
      have hI2 := (hI1.skip (dst := o.dst) hdo).up (show σ.nx + 8 * i ≤ σ.nx + 8 * (i + 1) by omega)
      refine evOps_sound hc rest (i + 1) (skLoc σ1 o.dst) (a.put o.dst undef) w Q Im (by rw [skLoc_nx, hnx]; exact hI2) (fun o' ho' d hd' => ?_) hs1 ?_
      · have := hd o' (by simp [ho']) d hd'
        cases hdst : o.dst with
        | none => exact this
        | some _ => simpa [Act.put] using this
      · intro σ' a' w2 Q2 Im2 g0 g1 g2 g3 g4 g5
        rw [skLoc_nx, hnx] at g2 g4
        rw [skLoc_hp, hhp] at g2
        exact hQ σ' a' w2 Q2 Im2 g0 g1 (Since.refl.trans g2 (by omega)) ((TK.put hkeep).trans (g3.mono hrestk)) g4 g5
    simp only [evOps] at hs
    split at hs
    · rename_i hg
      exact go σ hI rfl rfl (by simp [Region.wanted, hg]) hs
    · rename_i j want hg
      split at hs
      · simp [sat] at hs
      · rename_i t ht
        have hvt := hI.val (.tmp t)
        simp only [LSt.val, Act.eval] at hvt
        have wanted_of : ∀ b, yielded ops a.tmps j = some b → Region.wanted o (yielded ops a.tmps) = (b == want) := by
          intro b hy; simp only [Region.wanted, hg, hy]; cases b <;> cases want <;> rfl
        split at hs
        · rename_i e
          rw [e] at hvt; simp only [DR] at hvt
          have := yielded_sk ht hvt
          exact no σ hI rfl rfl (by simp [Region.wanted, hg, this]) hs
        · rename_i b e
          rw [e] at hvt; simp only [DR] at hvt
          have hy := wanted_of b (yielded_of ht hvt)
          split at hs
          · rename_i hbw; subst hbw
            exact go σ hI rfl rfl (by rw [hy]; simp) hs
          · rename_i hbw
            exact no σ hI rfl rfl (by rw [hy]; simpa using hbw) hs
        · rename_i b e
          rw [e] at hvt; simp only [DR, VR] at hvt
          have hy := wanted_of b (yielded_of ht hvt)
          simp only [sat] at hs
          cases b with
          | true =>
            have hI1 : Inv P (setLoc σ t (.bl true)) (σ.nx + 8 * i) a w Q Im := hI.set (by simp only [DR, Act.eval]; exact hvt) rfl
            have hs1 := hs.1 rfl
            split at hs1
            · rename_i hw; subst hw; exact go _ hI1 rfl rfl (by rw [hy]; rfl) hs1
            · rename_i hw; exact no _ hI1 rfl rfl (by rw [hy]; cases want <;> simp_all) hs1
          | false =>
            have hI1 : Inv P (setLoc σ t (.bl false)) (σ.nx + 8 * i) a w Q Im := hI.set (by simp only [DR, Act.eval]; exact hvt) rfl
            have hs1 := hs.2 rfl
            split at hs1
            · rename_i hw; subst hw; exact no _ hI1 rfl rfl (by rw [hy]; rfl) hs1
            · rename_i hw; exact go _ hI1 rfl rfl (by rw [hy]; cases want <;> simp_all) hs1
        · simp [sat] at hs
end
end Go.Ev
