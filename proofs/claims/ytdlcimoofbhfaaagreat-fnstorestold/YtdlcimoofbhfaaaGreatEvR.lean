/- A part of the proof. -/
import Derived.Test.YtdlcimoofbhfaaaGreatEvC
import Derived.Calls
import Derived.Laws.Sem
import Derived.Laws.World
set_option linter.all false
set_option linter.constructorNameAsVariable false
set_option linter.unusedVariables false
namespace Go.Ev
abbrev IM := Nat → Prop
def Callable (P : Program) (g : Nat) : Prop := ∃ fn, P.funcs[g]? = some fn ∧ (fn.name == "runtime.NumGoroutine") = false ∧ fn.body.isNone = false
def cellsAt (w : World) (b o : Nat) (vs : List Value) : Prop := ∀ j u, vs[j]? = some u → w.cell? ⟨b, o + j, none⟩ = some u
@[reducible] def outside (w : World) := (w.os, w.tape, w.output)
def Keeps (w w' : World) : Prop := w.heap.size ≤ w'.heap.size ∧ (∀ b, b < w.heap.size → w'.heap[b]? = w.heap[b]?) ∧ outside w' = outside w
def argOf (ag : Bool) (vs : List Value) : Option Value := if ag then some (.agg vs.toArray) else match vs with | [v] => some v | _ => none
mutual
def VR (P : Program) : (sh : Sh) → sh.ty → World → IM → Value → Prop
  | .b, x, _, _, v => v = .bool x
  | .i k, x, _, _, v => v = .int k x
  | .s, x, _, _, v => ∃ s : ByteArray, v = .string s ∧ s.data.toList = x
  | .e, x, _, _, v => (x = true ∧ v = .nilIface) ∨ (x = false ∧ ∃ t u, v = .iface t u)
  | .sl rs, l, w, Im, v => ∃ a cap, v = .slice a (List.length l) cap ∧ List.length l ≤ cap ∧ (l ≠ [] → ∃ b o, a = some ⟨b, o, none⟩ ∧ Im b ∧
      ∀ (i : Nat) (r : tyL rs), l[i]? = some r → ∃ vs, CR P rs r w Im vs ∧ cellsAt w b (o + i * rs.length) vs)
  | .rf cs, x, w, Im, v => ∃ b o vs, v = .pointer (some ⟨b, o, none⟩) ∧ Im b ∧ CR P cs x w Im vs ∧ cellsAt w b o vs
  | .fn ag ps, p, w, Im, v => ∃ g caps, v = .func (.func g) #[] caps ∧ Callable P g ∧
      ∀ (w' : World) (Im' : IM), (∀ b, Im b → Im' b ∧ w'.heap[b]? = w.heap[b]?) → (∀ b, Im' b → b < w'.heap.size) →
        ∀ (x : tyL ps) (t : Bool) vs u, p x t → CR P ps x w' Im' vs → argOf ag vs = some u →
          Calls P g (#[u] ++ caps) w' fun e w'' => e = .returned (.bool t) ∧ Keeps w' w''
  | .fn2 ps, p, w, Im, v => ∃ g caps, v = .func (.func g) #[] caps ∧ Callable P g ∧
      ∀ (w' : World) (Im' : IM), (∀ b, Im b → Im' b ∧ w'.heap[b]? = w.heap[b]?) → (∀ b, Im' b → b < w'.heap.size) →
        ∀ (x y : tyL ps) (t : Bool) vs us, p x y t → CR P ps x w' Im' vs → CR P ps y w' Im' us →
          Calls P g (#[.agg vs.toArray, .agg us.toArray] ++ caps) w' fun e w'' => e = .returned (.bool t) ∧ Keeps w' w''
def CR (P : Program) : (rs : List Sh) → tyL rs → World → IM → List Value → Prop
  | [], _, _, _, vs => vs = []
  | [a], x, w, Im, vs => ∃ v, vs = [v] ∧ VR P a x w Im v
  | a :: c :: r, x, w, Im, vs => ∃ v vs', vs = v :: vs' ∧ VR P a x.1 w Im v ∧ CR P (c :: r) x.2 w Im vs'
end
theorem cell_of_heap {w w' : World} {b o : Nat} (h : w'.heap[b]? = w.heap[b]?) : w'.cell? ⟨b, o, none⟩ = w.cell? ⟨b, o, none⟩ := by
  simp only [World.cell?, h]
theorem cellsAt_mono {w w' : World} {b o : Nat} {vs : List Value} (h : w'.heap[b]? = w.heap[b]?) (hc : cellsAt w b o vs) : cellsAt w' b o vs := by
  intro j u hj
  rw [cell_of_heap h]
  exact hc j u hj
mutual
theorem VR_mono {P : Program} : ∀ (sh : Sh) (x : sh.ty) {w w' : World} {Im Im' : IM} {v : Value}, (∀ b, Im b → Im' b ∧ w'.heap[b]? = w.heap[b]?) → VR P sh x w Im v → VR P sh x w' Im' v
  | .b, x, w, w', Im, Im', v, h, hv => by simpa only [VR] using hv
  | .i k, x, w, w', Im, Im', v, h, hv => by simpa only [VR] using hv
  | .s, x, w, w', Im, Im', v, h, hv => by simpa only [VR] using hv
  | .e, x, w, w', Im, Im', v, h, hv => by simpa only [VR] using hv
  | .sl rs, l, w, w', Im, Im', v, h, hv => by
    simp only [VR] at hv ⊢
    obtain ⟨a, cap, h1, h0, h2⟩ := hv
    refine ⟨a, cap, h1, h0, fun hn => ?_⟩
    obtain ⟨b, o, h3, h4, h5⟩ := h2 hn
    refine ⟨b, o, h3, (h b h4).1, fun i r hr => ?_⟩
    obtain ⟨vs, h6, h7⟩ := h5 i r hr
    exact ⟨vs, CR_mono rs r h h6, cellsAt_mono (h b h4).2 h7⟩
  | .rf cs, x, w, w', Im, Im', v, h, hv => by
    simp only [VR] at hv ⊢
    obtain ⟨b, o, vs, h1, h2, h3, h4⟩ := hv
    exact ⟨b, o, vs, h1, (h b h2).1, CR_mono cs x h h3, cellsAt_mono (h b h2).2 h4⟩
  | .fn ag ps, p, w, w', Im, Im', v, h, hv => by
    simp only [VR] at hv ⊢
    obtain ⟨g, caps, h1, h0, h2⟩ := hv
    refine ⟨g, caps, h1, h0, fun w2 Im2 ha hb => h2 w2 Im2 (fun b hb' => ⟨(ha b (h b hb').1).1, by rw [(ha b (h b hb').1).2, (h b hb').2]⟩) hb⟩
  | .fn2 ps, p, w, w', Im, Im', v, h, hv => by
    simp only [VR] at hv ⊢
    obtain ⟨g, caps, h1, h0, h2⟩ := hv
    refine ⟨g, caps, h1, h0, fun w2 Im2 ha hb => h2 w2 Im2 (fun b hb' => ⟨(ha b (h b hb').1).1, by rw [(ha b (h b hb').1).2, (h b hb').2]⟩) hb⟩
theorem CR_mono {P : Program} : ∀ (rs : List Sh) (x : tyL rs) {w w' : World} {Im Im' : IM} {vs : List Value}, (∀ b, Im b → Im' b ∧ w'.heap[b]? = w.heap[b]?) → CR P rs x w Im vs → CR P rs x w' Im' vs
  | [], x, w, w', Im, Im', vs, h, hv => by simpa only [CR] using hv
  | [a], x, w, w', Im, Im', vs, h, hv => by
    simp only [CR] at hv ⊢
    obtain ⟨v, h1, h2⟩ := hv
    exact ⟨v, h1, VR_mono a x h h2⟩
  | a :: c :: r, x, w, w', Im, Im', vs, h, hv => by
    simp only [CR] at hv ⊢
    obtain ⟨v, vs', h1, h2, h3⟩ := hv
    exact ⟨v, vs', h1, VR_mono a x.1 h h2, CR_mono (c :: r) x.2 h h3⟩
end
theorem CR_length {P : Program} : ∀ (rs : List Sh) (x : tyL rs) {w : World} {Im : IM} {vs : List Value}, CR P rs x w Im vs → vs.length = rs.length
  | [], x, w, Im, vs, h => by simp only [CR] at h; simp [h]
  | [a], x, w, Im, vs, h => by simp only [CR] at h; obtain ⟨v, rfl, _⟩ := h; rfl
  | a :: c :: r, x, w, Im, vs, h => by
    simp only [CR] at h
    obtain ⟨v, vs', rfl, _, h3⟩ := h
    simp [CR_length (c :: r) x.2 h3]
inductive Kd where
  | box | buf (n len : Nat)
  deriving DecidableEq
def Ob.kd : Ob → Kd
  | .box _ => .box
  | .buf rs l => .buf rs.length l.length
abbrev Hp := Nat → Option HO
def Hp.kd (H : Hp) (id : Nat) : Option Kd := (H id).map fun h => h.ob.kd
abbrev QM := Nat → Option (Nat × Nat)
def bsize (w : World) (b : Nat) : Nat := match w.heap[b]? with | some (.cells c _ _) => c.size | _ => 0
def OwnV (w : World) (Q : QM) (id n len : Nat) (u : Value) : Prop :=
  (Q id = none ∧ len = 0 ∧ u = .slice none 0 0) ∨
  ∃ b o cap, Q id = some (b, o) ∧ u = .slice (some ⟨b, o, none⟩) len cap ∧ len ≤ cap ∧ o + cap * n ≤ bsize w b
def SubV (w : World) (Q : QM) (id n len lo hi : Nat) (u : Value) : Prop :=
  lo ≤ hi ∧ hi ≤ len ∧ ((Q id = none ∧ len = 0 ∧ u = .slice none 0 0) ∨
  ∃ b o cap, Q id = some (b, o) ∧ len ≤ lo + cap ∧ o + (lo + cap) * n ≤ bsize w b ∧
    ((u = .slice (some ⟨b, o + lo * n, none⟩) (hi - lo) cap) ∨ (hi = lo ∧ len = lo ∧ u = .slice (some ⟨b, o, none⟩) 0 0)))
mutual
def DR (P : Program) (w : World) (Im : IM) (K : Nat → Option Kd) (Q : QM) : D → Value → Prop
  | .v sh x, u => VR P sh x w Im u
  | .bl t, u => u = .bool t
  | .nil, u => u = .slice none 0 0
  | .nile, u => u = .nilIface
  | .un, _ => True
  | .sk, u => u = undef
  | .own id, u => u.oneCell' = true ∧ ∀ n len, K id = some (.buf n len) → OwnV w Q id n len u
  | .osub id lo hi, u => u.oneCell' = true ∧ ∀ n len, K id = some (.buf n len) → SubV w Q id n len lo hi u
  | .ptr id off, u => u.oneCell' = true ∧ (K id = some .box → ∃ b, Q id = some (b, 0) ∧ u = .pointer (some ⟨b, off, none⟩))
  | .el id row off, u => u.oneCell' = true ∧ ∀ n len, K id = some (.buf n len) → ∃ b o, Q id = some (b, o) ∧ 0 ≤ row ∧ row < (len : Int) ∧ u = .pointer (some ⟨b, o + row.toNat * n + off, none⟩)
  | .rp rs x off, u => ∃ b o vs, u = .pointer (some ⟨b, o + off, none⟩) ∧ Im b ∧ CR P rs x w Im vs ∧ cellsAt w b o vs
  | .clo g caps, u => ∃ cs, u = .func (.func g) #[] cs.toArray ∧ DRL P w Im K Q caps cs
  | .agg ds, u => ∃ cs, u = .agg cs.toArray ∧ DRL P w Im K Q ds cs
  | .tup ds, u => ∃ cs, u = .tuple cs.toArray ∧ DRL P w Im K Q ds cs
def DRL (P : Program) (w : World) (Im : IM) (K : Nat → Option Kd) (Q : QM) : List D → List Value → Prop
  | [], us => us = []
  | d :: r, us => ∃ u us', us = u :: us' ∧ DR P w Im K Q d u ∧ DRL P w Im K Q r us'
end
structure RefOk (w w' : World) (K K' : Nat → Option Kd) (Q Q' : QM) (id : Nat) : Prop where
  same : K' id = none ∨ (K' id = K id ∧ Q' id = Q id ∧ ∀ b o, Q id = some (b, o) → K id = some .box ∨ bsize w' b = bsize w b)
mutual
theorem DR_mono {P : Program} {w w' : World} {Im Im' : IM} {K K' : Nat → Option Kd} {Q Q' : QM} (hm : ∀ b, Im b → Im' b ∧ w'.heap[b]? = w.heap[b]?) :
    ∀ (d : D) (u : Value), (∀ id ∈ idsD d, RefOk w w' K K' Q Q' id) → DR P w Im K Q d u → DR P w' Im' K' Q' d u
  | .v sh x, u, hr, h => by simp only [DR] at h ⊢; exact VR_mono sh x hm h
  | .bl t, u, hr, h => by simpa only [DR] using h
  | .nil, u, hr, h => by simpa only [DR] using h
  | .nile, u, hr, h => by simpa only [DR] using h
  | .un, u, hr, h => by simp only [DR]
  | .sk, u, hr, h => by simpa only [DR] using h
  | .own id, u, hr, h => by
    simp only [DR] at h ⊢
    obtain ⟨h9, h⟩ := h
    refine ⟨h9, ?_⟩
    intro n len hk
    rcases (hr id (by simp [idsD])).same with h0 | ⟨h1, h2, h3⟩
    · rw [h0] at hk; cases hk
    · rw [h1] at hk
      rcases h n len hk with ⟨a, b, c⟩ | ⟨b, o, cap, a, b1, c, d⟩
      · exact .inl ⟨by rw [h2, a], b, c⟩
      · have h5 : bsize w' b = bsize w b := (h3 b o a).resolve_left (by rw [hk]; simp)
        exact .inr ⟨b, o, cap, by rw [h2, a], b1, c, by rw [h5]; exact d⟩
  | .osub id lo hi, u, hr, h => by
    simp only [DR] at h ⊢
    obtain ⟨h9, h⟩ := h
    refine ⟨h9, ?_⟩
    intro n len hk
    rcases (hr id (by simp [idsD])).same with h0 | ⟨h1, h2, h3⟩
    · rw [h0] at hk; cases hk
    · rw [h1] at hk
      obtain ⟨hl, hh, h4⟩ := h n len hk
      refine ⟨hl, hh, ?_⟩
      rcases h4 with ⟨a, z, c⟩ | ⟨b, o, cap, a, b1, c, d⟩
      · exact .inl ⟨by rw [h2, a], z, c⟩
      · have h5 : bsize w' b = bsize w b := (h3 b o a).resolve_left (by rw [hk]; simp)
        exact .inr ⟨b, o, cap, by rw [h2, a], b1, by rw [h5]; exact c, d⟩
  | .ptr id off, u, hr, h => by
    simp only [DR] at h ⊢
    obtain ⟨h9, h⟩ := h
    refine ⟨h9, ?_⟩
    intro hk
    rcases (hr id (by simp [idsD])).same with h0 | ⟨h1, h2, h3⟩
    · rw [h0] at hk; cases hk
    · rw [h1] at hk
      obtain ⟨b, a, c⟩ := h hk
      exact ⟨b, by rw [h2, a], c⟩
  | .el id row off, u, hr, h => by
    simp only [DR] at h ⊢
    obtain ⟨h9, h⟩ := h
    refine ⟨h9, ?_⟩
    intro n len hk
    rcases (hr id (by simp [idsD])).same with h0 | ⟨h1, h2, h3⟩
    · rw [h0] at hk; cases hk
    · rw [h1] at hk
      obtain ⟨b, o, a, c, d, e⟩ := h n len hk
      exact ⟨b, o, by rw [h2, a], c, d, e⟩
  | .rp rs x off, u, hr, h => by
    simp only [DR] at h ⊢
    obtain ⟨b, o, vs, h1, h2, h3, h4⟩ := h
    exact ⟨b, o, vs, h1, (hm b h2).1, CR_mono rs x hm h3, cellsAt_mono (hm b h2).2 h4⟩
  | .clo g caps, u, hr, h => by
    simp only [DR] at h ⊢
    obtain ⟨cs, h1, h2⟩ := h
    exact ⟨cs, h1, DRL_mono hm caps cs (fun id hi => hr id (by simpa [idsD] using hi)) h2⟩
  | .agg ds, u, hr, h => by
    simp only [DR] at h ⊢
    obtain ⟨cs, h1, h2⟩ := h
    exact ⟨cs, h1, DRL_mono hm ds cs (fun id hi => hr id (by simpa [idsD] using hi)) h2⟩
  | .tup ds, u, hr, h => by
    simp only [DR] at h ⊢
    obtain ⟨cs, h1, h2⟩ := h
    exact ⟨cs, h1, DRL_mono hm ds cs (fun id hi => hr id (by simpa [idsD] using hi)) h2⟩
theorem DRL_mono {P : Program} {w w' : World} {Im Im' : IM} {K K' : Nat → Option Kd} {Q Q' : QM} (hm : ∀ b, Im b → Im' b ∧ w'.heap[b]? = w.heap[b]?) :
    ∀ (ds : List D) (us : List Value), (∀ id ∈ idsL ds, RefOk w w' K K' Q Q' id) → DRL P w Im K Q ds us → DRL P w' Im' K' Q' ds us
  | [], us, hr, h => by simpa only [DRL] using h
  | d :: r, us, hr, h => by
    simp only [DRL] at h ⊢
    obtain ⟨u, us', h1, h2, h3⟩ := h
    exact ⟨u, us', h1, DR_mono hm d u (fun id hi => hr id (by simp [idsL, hi])) h2, DRL_mono hm r us' (fun id hi => hr id (by simp [idsL, hi])) h3⟩
end
theorem DRL_length {P : Program} {w : World} {Im : IM} {K : Nat → Option Kd} {Q : QM} : ∀ (ds : List D) (us : List Value), DRL P w Im K Q ds us → us.length = ds.length
  | [], us, h => by simp only [DRL] at h; simp [h]
  | d :: r, us, h => by
    simp only [DRL] at h
    obtain ⟨u, us', rfl, _, h3⟩ := h
    simp [DRL_length r us' h3]
def free (fz : Nat × Nat) (n : Nat) : Prop := ∀ j, j < n → ¬ (fz.1 ≤ j ∧ j < fz.2)
def freeB (rs : List Sh) (fz : Nat × Nat) (n : Nat) : Prop := free fz n ∧ (rs = [.i .u8] ∨ ¬ (fz.1 ≤ n ∧ n < fz.2))
def ObR (P : Program) (w : World) (Im : IM) (K : Nat → Option Kd) (Q : QM) (id : Nat) : Ob → Prop
  | .box ds => ∃ b us e fz, Q id = some (b, 0) ∧ w.heap[b]? = some (.cells (List.toArray us) e fz) ∧ free fz us.length ∧ DRL P w Im K Q ds us
  | .buf rs l => (Q id = none ∧ l = []) ∨ ∃ b o cs e fz, Q id = some (b, o) ∧ w.heap[b]? = some (.cells cs e fz) ∧ freeB rs fz cs.size ∧ o + l.length * rs.length ≤ cs.size ∧
      ∀ (i : Nat) (r : tyL rs), l[i]? = some r → ∃ vs, CR P rs r w Im vs ∧ ∀ (j : Nat) u, vs[j]? = some u → cs[o + i * rs.length + j]? = some u
structure WR (P : Program) (H : Hp) (Q : QM) (Im : IM) (w : World) : Prop where
  imlt : ∀ b, Im b → b < w.heap.size
  own : ∀ id h b o, H id = some h → Q id = some (b, o) → b < w.heap.size ∧ ¬ Im b
  inj : ∀ id id' h h' b o o', H id = some h → H id' = some h' → Q id = some (b, o) → Q id' = some (b, o') → id = id'
  ob : ∀ id h, H id = some h → ObR P w Im H.kd Q id h.ob
end Go.Ev
