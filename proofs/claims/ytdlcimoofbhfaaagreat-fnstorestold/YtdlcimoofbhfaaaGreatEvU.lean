/- A part of the proof. -/
import Derived.Test.YtdlcimoofbhfaaaGreatEvTb
set_option linter.all false
set_option linter.constructorNameAsVariable false
set_option linter.unusedVariables false
set_option linter.unusedSimpArgs false
namespace Go.Ev
section
variable {α β γ : Type}
def idxO (l : List α) (i : Int) (k : α → Option β) : Option β := if 0 ≤ i then (match l[i.toNat]? with | some r => k r | none => none) else none
open Classical in
noncomputable def reqO (p : Prop) (o : Option β) : Option β := if p then o else none
open Classical in
noncomputable def predO (p : Bool → Prop) : Option Bool := if p true then some true else if p false then some false else none
def iterO (B : (α → Option β) → α → Option β) : Nat → α → Option β
  | 0 => fun _ => none
  | n + 1 => B (iterO B n)
open Classical in
noncomputable def fixO (B : (α → Option β) → α → Option β) (v : α) : Option β := if h : ∃ y, ∃ n, iterO B n v = some y then some (Classical.choose h) else none
theorem fixO_iter {B : (α → Option β) → α → Option β} {v : α} {y : β} (h : fixO B v = some y) : ∃ n, iterO B n v = some y := by
  unfold fixO at h
  split at h
  · rename_i hx
    have := Classical.choose_spec hx
    simp only [Option.some.injEq] at h
    rw [h] at this
    exact this
  · cases h
def LeO (a b : Option γ) : Prop := ∀ y, a = some y → b = some y
theorem LeO.refl {a : Option γ} : LeO a a := fun _ h => h
def CpO (o : Nat → Option γ) (o' : Option γ) : Prop := ∀ y, o' = some y → ∃ n, ∀ m, n ≤ m → o m = some y
theorem CpO.refl {a : Option γ} : CpO (fun _ => a) a := fun _ h => ⟨0, fun _ _ => h⟩
def MonoB (B : (α → Option β) → α → Option β) : Prop := ∀ r r', (∀ v, LeO (r v) (r' v)) → ∀ v, LeO (B r v) (B r' v)
def CpB (B : (α → Option β) → α → Option β) : Prop := ∀ (c : Nat → α → Option β) f, (∀ v, CpO (fun n => c n v) (f v)) → ∀ v, CpO (fun n => B (c n) v) (B f v)
theorem iterO_mono {B : (α → Option β) → α → Option β} (hm : MonoB B) : ∀ (n m : Nat), n ≤ m → ∀ v, LeO (iterO B n v) (iterO B m v)
  | 0, m, h, v => fun y h => by simp [iterO] at h
  | n + 1, 0, h, v => by omega
  | n + 1, m + 1, h, v => hm _ _ (fun v => iterO_mono hm n m (by omega) v) v
theorem iter_fixO {B : (α → Option β) → α → Option β} (hm : MonoB B) {v : α} {y : β} {n : Nat} (h : iterO B n v = some y) : fixO B v = some y := by
  have hx : ∃ y, ∃ n, iterO B n v = some y := ⟨y, n, h⟩
  unfold fixO
  rw [dif_pos hx]
  obtain ⟨m, hm'⟩ := Classical.choose_spec hx
  have h1 := iterO_mono hm n (n + m) (by omega) v _ h
  have h2 := iterO_mono hm m (n + m) (by omega) v _ hm'
  rw [h1] at h2
  exact h2.symm
theorem CpO_iter {B : (α → Option β) → α → Option β} (hm : MonoB B) (v : α) : CpO (fun n => iterO B n v) (fixO B v) := by
  intro y h
  obtain ⟨n, hn⟩ := fixO_iter h
  exact ⟨n, fun m hm' => iterO_mono hm n m hm' v y hn⟩
theorem fixO_eq {B : (α → Option β) → α → Option β} (hm : MonoB B) (hc : CpB B) (v : α) : fixO B v = B (fixO B) v := by
  have h1 : LeO (fixO B v) (B (fixO B) v) := by
    intro y h
    obtain ⟨n, hn⟩ := fixO_iter h
    cases n with
    | zero => simp [iterO] at hn
    | succ n => exact hm (iterO B n) (fixO B) (fun v y h => iter_fixO hm h) v y hn
  have h2 : LeO (B (fixO B) v) (fixO B v) := by
    intro y h
    obtain ⟨n, hn⟩ := hc (fun n => iterO B n) (fixO B) (fun v => CpO_iter hm v) v y h
    exact iter_fixO hm (n := n + 1) (hn n (Nat.le_refl _))
  cases e : fixO B v with
  | some y => exact (h1 y e).symm
  | none =>
    cases e2 : B (fixO B) v with
    | none => rfl
    | some y => have := h2 y e2; rw [e] at this; cases this
theorem le_ite {p : Prop} {inst : Decidable p} {a b a' b' : Option γ} (h1 : LeO a a') (h2 : LeO b b') : LeO (if p then a else b) (if p then a' else b') := by
  split <;> assumption
theorem le_bind {a a' : Option α} {k k' : α → Option γ} (h1 : LeO a a') (h2 : ∀ x, LeO (k x) (k' x)) : LeO (a.bind k) (a'.bind k') := by
  intro y h
  cases a with
  | none => cases h
  | some x => rw [h1 x rfl]; exact h2 x y h
theorem le_idx {l : List α} {i : Int} {k k' : α → Option γ} (h2 : ∀ x, LeO (k x) (k' x)) : LeO (idxO l i k) (idxO l i k') := by
  intro y h
  unfold idxO at h ⊢
  split at h
  · rename_i hi
    rw [if_pos hi]
    split at h
    · exact h2 _ y h
    · cases h
  · cases h
theorem le_req {p : Prop} {a a' : Option γ} (h : LeO a a') : LeO (reqO p a) (reqO p a') := by
  unfold reqO
  split
  · exact h
  · exact .refl
theorem le_fix {B B' : (α → Option β) → α → Option β} (hm : MonoB B') (h : ∀ r r', (∀ v, LeO (r v) (r' v)) → ∀ v, LeO (B r v) (B' r' v)) (v : α) : LeO (fixO B v) (fixO B' v) := by
  intro y hy
  obtain ⟨n, hn⟩ := fixO_iter hy
  refine iter_fixO hm (n := n) ?_
  clear hy
  induction n generalizing v y with
  | zero => simp [iterO] at hn
  | succ n ih => exact h (iterO B n) (iterO B' n) (fun v y hn => ih v y hn) v y hn
theorem cp_ite {p : Prop} {inst : Decidable p} {a b : Nat → Option γ} {a' b' : Option γ} (h1 : CpO a a') (h2 : CpO b b') : CpO (fun n => if p then a n else b n) (if p then a' else b') := by
  split
  · exact h1
  · exact h2
theorem cp_bind {a : Nat → Option α} {a' : Option α} {k : Nat → α → Option γ} {k' : α → Option γ} (h1 : CpO a a') (h2 : ∀ x, CpO (fun n => k n x) (k' x)) : CpO (fun n => (a n).bind (k n)) (a'.bind k') := by
  intro y h
  cases a' with
  | none => cases h
  | some x =>
    obtain ⟨n1, g1⟩ := h1 x rfl
    obtain ⟨n2, g2⟩ := h2 x y h
    exact ⟨max n1 n2, fun m hm => by show (a m).bind (k m) = some y; rw [g1 m (by omega)]; exact g2 m (by omega)⟩
theorem cp_idx {l : List α} {i : Int} {k : Nat → α → Option γ} {k' : α → Option γ} (h2 : ∀ x, CpO (fun n => k n x) (k' x)) : CpO (fun n => idxO l i (k n)) (idxO l i k') := by
  intro y h
  unfold idxO at h ⊢
  split at h
  · rename_i hi
    simp only [if_pos hi]
    split at h
    · exact h2 _ y h
    · cases h
  · cases h
theorem cp_req {p : Prop} {a : Nat → Option γ} {a' : Option γ} (h : CpO a a') : CpO (fun n => reqO p (a n)) (reqO p a') := by
  intro y hy
  unfold reqO at hy ⊢
  split at hy
  · rename_i hp
    simp only [if_pos hp]
    exact h y hy
  · cases hy
theorem cp_fix {B : Nat → (α → Option β) → α → Option β} {B' : (α → Option β) → α → Option β} (hm : ∀ n, MonoB (B n))
    (h : ∀ (r : Nat → α → Option β) r', (∀ v, CpO (fun n => r n v) (r' v)) → ∀ v, CpO (fun n => B n (r n) v) (B' r' v)) (v : α) : CpO (fun n => fixO (B n) v) (fixO B' v) := by
  intro y hy
  obtain ⟨n, hn⟩ := fixO_iter hy
  have key : ∀ n v, CpO (fun k => iterO (B k) n v) (iterO B' n v) := by
    intro n
    induction n with
    | zero => intro v y h; simp [iterO] at h
    | succ n ih => intro v; exact h (fun k => iterO (B k) n) (iterO B' n) ih v
  obtain ⟨m, h1⟩ := key n v y hn
  exact ⟨m, fun k hk => iter_fixO (hm k) (h1 k hk)⟩
end
abbrev DEnv (R : Type) := List (Σ S : List Sh, tyL S → Option R)
noncomputable def den (c : Ctx) {R : Type} : Tr R → DEnv R → Option R
  | .fail, _ => none
  | .ret y, _ => some y
  | .ite b x y, E => if b = true then den c x E else den c y E
  | .call f S x k, E => (c.callF f S x).bind fun y => den c (k y) E
  | .callv p k, E => (predO p).bind fun t => den c (k t) E
  | .idx l i k, E => idxO l i fun r => den c (k r) E
  | .req p k, E => reqO p (den c k E)
  | .loop S v b, E => fixO (fun rec v => den c (b v) (E ++ [⟨S, rec⟩])) v
  | .again n S v, E => match E[n]? with
    | some ⟨S', g⟩ => match eqL? S' S with
      | some ⟨h⟩ => g (h ▸ v)
      | none => none
    | none => none
def AgOk {R : Type} (y : R) (E : DEnv R) (As : Again) : Prop := ∀ (n : Nat) (S : List Sh) (g : tyL S → Option R), E[n]? = some ⟨S, g⟩ → ∃ A : tyL S → Prop, As[n]? = some ⟨S, A⟩ ∧ ∀ v, g v = some y → A v
theorem den_sat {c : Ctx} {R : Type} {y : R} : ∀ (t : Tr R) (E : DEnv R) (As : Again), E.length = As.length → AgOk y E As → den c t E = some y → sat c.okp t As (fun z => z = y)
  | .fail, E, As, hl, hA, h => by simp [den] at h
  | .ret z, E, As, hl, hA, h => by simpa [den, sat] using h
  | .ite b t1 t2, E, As, hl, hA, h => by
    simp only [den] at h
    simp only [sat]
    split at h
    · rename_i hb
      exact ⟨fun _ => den_sat t1 E As hl hA h, fun hb' => by rw [hb] at hb'; cases hb'⟩
    · rename_i hb
      exact ⟨fun hb' => absurd hb' hb, fun _ => den_sat t2 E As hl hA h⟩
  | .call f S x k, E, As, hl, hA, h => by
    simp only [den] at h
    simp only [sat]
    cases e : c.callF f S x with
    | none => rw [e] at h; cases h
    | some z => rw [e] at h; exact ⟨z, e, den_sat (k z) E As hl hA h⟩
  | .callv p k, E, As, hl, hA, h => by
    simp only [den, predO] at h
    simp only [sat]
    split at h
    · rename_i hp; exact ⟨true, hp, den_sat (k true) E As hl hA h⟩
    · split at h
      · rename_i hp; exact ⟨false, hp, den_sat (k false) E As hl hA h⟩
      · cases h
  | .idx l i k, E, As, hl, hA, h => by
    simp only [den, idxO] at h
    simp only [sat]
    split at h
    · rename_i hi
      split at h
      · rename_i r hr; exact ⟨r, hi, hr, den_sat (k r) E As hl hA h⟩
      · cases h
    · cases h
  | .req p k, E, As, hl, hA, h => by
    simp only [den, reqO] at h
    simp only [sat]
    split at h
    · rename_i hp; exact ⟨hp, den_sat k E As hl hA h⟩
    · cases h
  | .loop S v b, E, As, hl, hA, h => by
    simp only [den] at h
    simp only [sat]
    intro X hX
    obtain ⟨n, hn⟩ := fixO_iter h
    clear h
    induction n generalizing v with
    | zero => simp [iterO] at hn
    | succ n ih =>
      refine hX v (den_sat (b v) (E ++ [⟨S, iterO (fun rec v => den c (b v) (E ++ [⟨S, rec⟩])) n⟩]) (As ++ [⟨S, X⟩]) (by simp [hl]) ?_ (by simpa only [iterO] using hn))
      intro m S' g hg
      by_cases hm : m < E.length
      · rw [List.getElem?_append_left hm] at hg
        obtain ⟨A, h1, h2⟩ := hA m S' g hg
        exact ⟨A, by rw [List.getElem?_append_left (by omega)]; exact h1, h2⟩
      · rw [List.getElem?_append_right (by omega)] at hg
        have hm' : m - E.length = 0 := by
          rcases Nat.eq_zero_or_pos (m - E.length) with h | h
          · exact h
          · rw [List.getElem?_eq_none (by simp; omega)] at hg; cases hg
        rw [hm'] at hg
        simp only [List.getElem?_cons_zero, Option.some.injEq] at hg
        cases hg
        refine ⟨X, by rw [List.getElem?_append_right (by omega), show m - As.length = 0 by omega]; rfl, fun v hv => ih v hv⟩
  | .again n S v, E, As, hl, hA, h => by
    simp only [den] at h
    simp only [sat]
    split at h
    · rename_i S' g hg
      split at h
      · rename_i hS _
        subst hS
        obtain ⟨A, h1, h2⟩ := hA n _ g hg
        exact ⟨A, h1, h2 _ h⟩
      · cases h
    · cases h
noncomputable def comp (c : Ctx) (fn : Func) (S : Sig) (x : S.In) : Option S.Out := den c (evFun c fn S x) []
theorem comp_ok {P : Program} {c : Ctx} (hc : CtxOk P c) (hm : P.follows .mixedOrders = true) {f : Nat} {fn : Func} (hf : P.funcs[f]? = some fn) {S : Sig} {x : S.In} {y : S.Out} (h : comp c fn S x = some y) : Ok P f S x y :=
  evFun_sound hc hm hf (den_sat _ _ _ rfl (fun n S g hg => by simp at hg) h)
structure FnOk (P : Program) (g : Nat) (e : FnI) : Prop where
  call : Callable P g
  ok : ∀ x y, e.F x = some y → Ok P g e.S x y
def TabOk (P : Program) : List (Nat × FnI) → Prop
  | [] => True
  | (g, e) :: r => FnOk P g e ∧ TabOk P r
theorem TabOk.nil {P : Program} : TabOk P [] := trivial
theorem TabOk.cons {P : Program} {g : Nat} {e : FnI} {r : List (Nat × FnI)} (h : FnOk P g e) (h' : TabOk P r) : TabOk P ((g, e) :: r) := ⟨h, h'⟩
theorem TabOk.look {P : Program} : ∀ {t : List (Nat × FnI)}, TabOk P t → ∀ {g : Nat} {e : FnI}, Go.Ev.look t g = some e → FnOk P g e
  | [], h, g, e, hl => by simp [Go.Ev.look] at hl
  | (k, e') :: r, h, g, e, hl => by
    simp only [Go.Ev.look] at hl
    split at hl
    · rename_i hk; subst hk; cases hl; exact h.1
    · exact TabOk.look h.2 hl
theorem ctxOk_of {P : Program} {c : Ctx} (hti : ∀ t, TiOk P t (c.Θ t)) (ht : TabOk P c.tab) : CtxOk P c where
  ti := hti
  okp := by
    intro f S x y h
    unfold Ctx.okp Ctx.callF at h
    split at h
    · rename_i e he
      split at h
      · rename_i hS _
        subst hS
        exact (ht.look he).ok x y h
      · cases h
    · cases h
  fn := by
    intro g S h
    unfold Ctx.sigs at h
    split at h
    · rename_i e he
      exact (ht.look he).call
    · cases h
theorem fnOk_of {P : Program} {c : Ctx} (hti : ∀ t, TiOk P t (c.Θ t)) (ht : TabOk P c.tab) (hm : P.follows .mixedOrders = true) {f : Nat} {fn : Func} (hf : P.funcs[f]? = some fn) (hn : (fn.name == "runtime.NumGoroutine") = false) (hb : fn.body.isNone = false)
    {S : Sig} {F : S.In → Option S.Out} (h : (fun x => comp c fn S x) = F) : FnOk P f ⟨S, F⟩ :=
  ⟨⟨fn, hf, hn, hb⟩, fun x y hy => comp_ok (ctxOk_of hti ht) hm hf (by rw [← hy, ← h])⟩
end Go.Ev
