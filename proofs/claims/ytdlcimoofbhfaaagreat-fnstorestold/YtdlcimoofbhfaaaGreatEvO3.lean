/- A part of the proof. -/
import Derived.Test.YtdlcimoofbhfaaaGreatEvO2
set_option linter.all false
set_option linter.constructorNameAsVariable false
set_option linter.unusedVariables false
set_option linter.unusedSimpArgs false
namespace Go.Ev
section
variable {P : Program} {c : Ctx} {H : Hp} {Q : QM} {Im : IM} {w : World} {val : Operand → D} {ρ : Operand → Value} {hpE : Heap} {nid : Nat} {o : Oper} {x : D × Dl}
theorem ti_one {t : TypeId} {ti : TI} (h : TiOk P t ti) {sh : Sh} (h1 : ti.one = [sh]) : ∃ d, P.underlying t = some d ∧ isAggD d = false ∧ shDesc P sh d := by
  unfold TI.one at h1
  split at h1
  · cases h1
  · rename_i hag
    rcases h with h0 | ⟨_, hf⟩
    · rw [h0.1] at h1; cases h1
    · cases hf.desc with
      | agg fs hag' => exact absurd hag' hag
      | one sh' d _ _ _ h2 h3 h4 h5 => rw [h1] at h2; cases h2; exact ⟨d, h3, h4, h5⟩
theorem sim_not (hw : WR P H Q Im w) (hv : ∀ x, DR P w Im H.kd Q (val x) (ρ x)) {t : TypeId} {y : Operand} (ho : o.op = .unOp .not t y)
    (h : Reach c.okp (evOp c val hpE nid (.unOp .not t y)) x) : Sim P H Q Im w ρ o nid x := by
  have hy := hv y
  simp only [evOp] at h
  split at h
  · rename_i b e
    rw [e] at hy; simp only [DR] at hy
    rw [reach_just h]
    exact sim_value (u := .bool !b) (w' := w) hw (by simp [execOp, ho, hy, Op.unary]) rfl (by simp only [DR])
  · rename_i b e
    rw [e] at hy; simp only [DR, VR] at hy
    rw [reach_just h]
    exact sim_value (u := .bool !b) (w' := w) hw (by simp [execOp, ho, hy, Op.unary]) rfl (by simp only [DR, VR])
  · cases h
theorem sim_neg (hw : WR P H Q Im w) (hv : ∀ x, DR P w Im H.kd Q (val x) (ρ x)) {t : TypeId} {y : Operand} (ho : o.op = .unOp .neg t y)
    (h : Reach c.okp (evOp c val hpE nid (.unOp .neg t y)) x) : Sim P H Q Im w ρ o nid x := by
  have hy := hv y
  simp only [evOp] at h
  split at h
  · rename_i k n e
    rw [e] at hy; simp only [DR, VR] at hy
    rw [reach_just h]
    exact sim_value (u := .int k (k.wrap (0 - n))) (w' := w) hw (by simp only [execOp, ho, hy, Op.unary, Op.intArith]; rfl) rfl (by simp only [DR, VR])
  · cases h
theorem find_kd {hpE : Heap} (hsub : ∀ id h, hpE.find id = some h → H id = some h) {id : Nat} {i : Nat} {r : Bool} {ob : Ob} (h : hpE.find id = some ⟨i, r, ob⟩) : H.kd id = some ob.kd := by
  simp only [Hp.kd, hsub id _ h, Option.map_some]
theorem sim_nilCheck (hw : WR P H Q Im w) (hv : ∀ x, DR P w Im H.kd Q (val x) (ρ x)) (hsub : ∀ id h, hpE.find id = some h → H id = some h)
    {y : Operand} (ho : o.op = .nilCheck y) (h : Reach c.okp (evOp c val hpE nid (.nilCheck y)) x) : Sim P H Q Im w ρ o nid x := by
  have hy := hv y
  simp only [evOp] at h
  have fin : ∀ {d : D} {a : Addr}, ρ y = .pointer (some a) → val y = d → x = (d, {}) → Sim P H Q Im w ρ o nid x := by
    intro d a h1 h2 h3
    rw [h3]
    refine sim_value (u := ρ y) (w' := w) hw ?_ rfl (by rw [← h2]; exact hy)
    simp [execOp, ho, h1]
  split at h
  · rename_i id off e
    split at h
    · rename_i i r cs hf
      rw [e] at hy; simp only [DR] at hy
      obtain ⟨b, _, hb⟩ := hy.2 (by rw [find_kd hsub hf]; rfl)
      exact fin hb e (reach_just h)
    · cases h
  · rename_i id row off e
    split at h
    · rename_i i r rs l hf
      rw [e] at hy; simp only [DR] at hy
      obtain ⟨b, o', _, _, _, hb⟩ := hy.2 _ _ (by rw [find_kd hsub hf]; rfl)
      exact fin hb e (reach_just h)
    · cases h
  · rename_i rs z off e
    rw [e] at hy; simp only [DR] at hy
    obtain ⟨b, o', vs, hb, _⟩ := hy
    exact fin hb e (reach_just h)
  · rename_i cs z e
    rw [e] at hy; simp only [DR, VR] at hy
    obtain ⟨b, o', vs, hb, _⟩ := hy
    exact fin hb e (reach_just h)
  · cases h
theorem tupR {K : Nat → Option Kd} : ∀ (ds : List D) (us : List Value) (n : Nat) (d : D), DRL P w Im K Q ds us → ds[n]? = some d → ∃ u, us[n]? = some u ∧ DR P w Im K Q d u
  | [], us, n, d, h, hn => by simp at hn
  | e :: r, us, 0, d, h, hn => by
    simp only [DRL] at h
    obtain ⟨u, us', rfl, h1, h2⟩ := h
    simp at hn; subst hn
    exact ⟨u, rfl, h1⟩
  | e :: r, us, n + 1, d, h, hn => by
    simp only [DRL] at h
    obtain ⟨u, us', rfl, h1, h2⟩ := h
    simp at hn
    obtain ⟨u', h3, h4⟩ := tupR r us' n d h2 hn
    exact ⟨u', by simpa using h3, h4⟩
theorem sim_extract (hw : WR P H Q Im w) (hv : ∀ x, DR P w Im H.kd Q (val x) (ρ x)) {n : Nat} {y : Operand} (ho : o.op = .extract y n)
    (h : Reach c.okp (evOp c val hpE nid (.extract y n)) x) : Sim P H Q Im w ρ o nid x := by
  have hy := hv y
  simp only [evOp] at h
  split at h
  · rename_i vs e
    obtain ⟨d, hd, h⟩ := reach_ofO h
    rw [e] at hy; simp only [DR] at hy
    obtain ⟨cs, hy, hcs⟩ := hy
    obtain ⟨u, h1, h2⟩ := tupR vs cs n d hcs hd
    rw [reach_just h]
    refine sim_value (u := u) (w' := w) hw ?_ rfl h2
    simp [execOp, ho, hy, Instr.extract, h1]
  · cases h
theorem sim_makeFunc (hw : WR P H Q Im w) (hv : ∀ x, DR P w Im H.kd Q (val x) (ρ x)) {g : Nat} {f cs : Array Operand} (ho : o.op = .makeFunc (.func g) f cs)
    (h : Reach c.okp (evOp c val hpE nid (.makeFunc (.func g) f cs)) x) : Sim P H Q Im w ρ o nid x := by
  simp only [evOp] at h
  split at h
  · rename_i hf
    rw [reach_just h]
    refine sim_value (u := .func (.func g) #[] (cs.map ρ)) (w' := w) hw ?_ rfl ?_
    · have : f = #[] := by simpa using hf
      subst this
      simp [execOp, ho, Instr.makeFunc]
    · simp only [DR]
      refine ⟨(cs.map ρ).toList, rfl, ?_⟩
      have : (cs.map ρ).toList = cs.toList.map ρ := by simp
      rw [this]
      generalize cs.toList = l
      induction l with
      | nil => simp only [List.map_nil, DRL]
      | cons a r ih => simp only [List.map_cons, DRL]; exact ⟨_, _, rfl, hv a, ih⟩
  · cases h
theorem asI_val {d : D} {n : Int} {K : Nat → Option Kd} {u : Value} (h : asI d = some n) (hd : DR P w Im K Q d u) : ∃ k, u = .int k n := by
  unfold asI at h
  split at h
  · simp only [DR, VR] at hd; cases h; exact ⟨_, hd⟩
  · cases h
theorem sim_index (hc : CtxOk P c) (hw : WR P H Q Im w) (hv : ∀ x, DR P w Im H.kd Q (val x) (ρ x)) {t : TypeId} {y z : Operand} (ho : o.op = .index t y z)
    (h : Reach c.okp (evOp c val hpE nid (.index t y z)) x) : Sim P H Q Im w ρ o nid x := by
  have hy := hv y
  have hz := hv z
  simp only [evOp] at h
  obtain ⟨n, hn, h⟩ := reach_ofO h
  obtain ⟨k, hz⟩ := asI_val hn hz
  split at h
  · rename_i l h1 e
    obtain ⟨d, hd, _, hsd⟩ := ti_one (hc.ti t) h1
    simp only [shDesc] at hsd; subst hsd
    rw [e] at hy; simp only [DR, VR] at hy
    obtain ⟨s, hy, rfl⟩ := hy
    cases h with
    | req hb h =>
      rw [reach_just h]
      have hlt : n.toNat < s.size := by
        have e1 : s.data.toList.length = s.size := Array.length_toList
        rw [e1] at hb; omega
      have hget : s[n.toNat]? = some s[n.toNat] := by rw [getElem?_pos s n.toNat hlt]
      refine sim_value (u := .int .u8 s[n.toNat].toNat) (w' := w) hw ?_ rfl ?_
      · simp only [execOp, ho, hy, hz, Instr.index, asIntOf, Sem.run_bind, Sem.run_pure, Result.andThen_ok, run_underlying hd, hb.1, if_true, hget]
      · simp only [DR, VR, byteAt]
        have : s.data.toList.getD n.toNat 0 = s[n.toNat] := by
          rw [List.getD_eq_getElem?_getD, List.getElem?_eq_getElem (by rw [Array.length_toList]; exact hlt)]
          rfl
        rw [this]
  · cases h
theorem mapD {K : Nat → Option Kd} (hv : ∀ x, DR P w Im K Q (val x) (ρ x)) : ∀ (l : List Operand), DRL P w Im K Q (l.map val) (l.map ρ)
  | [] => by simp only [List.map_nil, DRL]
  | a :: r => by simp only [List.map_cons, DRL]; exact ⟨_, _, rfl, hv a, mapD hv r⟩
theorem as64_val {d : D} {n : Int} {K : Nat → Option Kd} {u : Value} (h : as64 d = some n) (hd : DR P w Im K Q d u) : u = .int .i64 n := by
  unfold as64 at h
  split at h
  · simp only [DR, VR] at hd; cases h; exact hd
  · cases h
theorem as64s_val (hv : ∀ x, DR P w Im H.kd Q (val x) (ρ x)) : ∀ (l : List Operand) (ns : List Int), as64s val l = some ns → l.map ρ = ns.map (Value.int .i64)
  | [], ns, h => by simp only [as64s] at h; cases h; rfl
  | a :: r, ns, h => by
    simp only [as64s] at h
    split at h
    · rename_i n l' h1 h2
      cases h
      simp only [List.map_cons, as64_val h1 (hv a), as64s_val hv r l' h2]
    · cases h
theorem run_fold_min : ∀ (l : List Int) (a : Int), (List.foldlM Builtin.min2 (Value.int .i64 a) (l.map (Value.int .i64))).run P w = .ok (.int .i64 (l.foldl (fun x y => if y < x then y else x) a)) w
  | [], a => rfl
  | b :: r, a => by
    simp only [List.map_cons, List.foldlM_cons, List.foldl_cons, Sem.run_bind, Builtin.min2, Sem.run_pure, Result.andThen_ok]
    exact run_fold_min r _
theorem run_fold_max : ∀ (l : List Int) (a : Int), (List.foldlM Builtin.max2 (Value.int .i64 a) (l.map (Value.int .i64))).run P w = .ok (.int .i64 (l.foldl (fun x y => if x < y then y else x) a)) w
  | [], a => rfl
  | b :: r, a => by
    simp only [List.map_cons, List.foldlM_cons, List.foldl_cons, Sem.run_bind, Builtin.max2, Sem.run_pure, Result.andThen_ok]
    exact run_fold_max r _
theorem run_call_builtin {cl : Call} {bi : Builtin} (ho : o.op = .call cl) (hb : cl.callee = .builtin bi) : ∃ cs, (execOp ρ o).run P w =
    (builtin bi cl.argTypes o.type cs (cl.args.map ρ)).run P w := by
  simp only [execOp, ho, resolve, hb, Sem.run_bind, Sem.run_pure, Result.andThen_ok, invoke]
  exact ⟨_, rfl⟩
theorem arr1 {α : Type} {a : Array α} {l : List α} (h : a.toList = l) : a = l.toArray := by rw [← h]
theorem sim_min (hw : WR P H Q Im w) (hv : ∀ x, DR P w Im H.kd Q (val x) (ρ x)) {cl : Call} (ho : o.op = .call cl) (hb : cl.callee = .builtin .min)
    (h : Reach c.okp (evOp c val hpE nid (.call cl)) x) : Sim P H Q Im w ρ o nid x := by
  simp only [evOp, hb] at h
  obtain ⟨l, hl, h⟩ := reach_ofO h
  obtain ⟨n, hn, h⟩ := reach_ofO h
  rw [reach_just h]
  refine sim_value (u := .int .i64 n) (w' := w) hw ?_ rfl (by simp only [DR, VR])
  obtain ⟨consts, hrun⟩ := run_call_builtin (P := P) (w := w) (ρ := ρ) ho hb
  rw [hrun]
  have e := as64s_val hv cl.args.toList l hl
  simp only [builtin, Sem.run_bind, Builtin.min_, Array.toList_map, e]
  cases l with
  | nil => simp only [minI] at hn; cases hn
  | cons a r =>
    simp only [minI] at hn; cases hn
    simp only [List.map_cons, run_fold_min r a, Result.andThen_ok, Sem.run_pure]
theorem sim_max (hw : WR P H Q Im w) (hv : ∀ x, DR P w Im H.kd Q (val x) (ρ x)) {cl : Call} (ho : o.op = .call cl) (hb : cl.callee = .builtin .max)
    (h : Reach c.okp (evOp c val hpE nid (.call cl)) x) : Sim P H Q Im w ρ o nid x := by
  simp only [evOp, hb] at h
  obtain ⟨l, hl, h⟩ := reach_ofO h
  obtain ⟨n, hn, h⟩ := reach_ofO h
  rw [reach_just h]
  refine sim_value (u := .int .i64 n) (w' := w) hw ?_ rfl (by simp only [DR, VR])
  obtain ⟨consts, hrun⟩ := run_call_builtin (P := P) (w := w) (ρ := ρ) ho hb
  rw [hrun]
  have e := as64s_val hv cl.args.toList l hl
  simp only [builtin, Sem.run_bind, Builtin.max_, Array.toList_map, e]
  cases l with
  | nil => simp only [maxI] at hn; cases hn
  | cons a r =>
    simp only [maxI] at hn; cases hn
    simp only [List.map_cons, run_fold_max r a, Result.andThen_ok, Sem.run_pure]
theorem sim_len (hc : CtxOk P c) (hw : WR P H Q Im w) (hv : ∀ x, DR P w Im H.kd Q (val x) (ρ x)) (hsub : ∀ id h, hpE.find id = some h → H id = some h) {cl : Call} (ho : o.op = .call cl) (hb : cl.callee = .builtin .len)
    (h : Reach c.okp (evOp c val hpE nid (.call cl)) x) : Sim P H Q Im w ρ o nid x := by
  simp only [evOp, hb] at h
  split at h
  · rename_i y t ha ht
    have hy := hv y
    have go : ∀ (n : Nat) (d : TypeDesc), P.underlying t = some d → ((d = .string ∧ ∃ s, ρ y = .string s ∧ s.size = n) ∨ (∃ e, d = .slice e) ∧ ∃ a k, ρ y = .slice a n k) → x = (.v (.i .i64) (n : Int), {}) → Sim P H Q Im w ρ o nid x := by
      intro n d hd hcase hx
      rw [hx]
      refine sim_value (u := .int .i64 n) (w' := w) hw ?_ rfl (by simp only [DR, VR])
      obtain ⟨consts, hrun⟩ := run_call_builtin (P := P) (w := w) (ρ := ρ) ho hb
      rw [hrun]
      rcases hcase with ⟨rfl, s, hs, rfl⟩ | ⟨⟨e, rfl⟩, a, k, hs⟩ <;>
        simp [builtin, Builtin.len_, arr1 ha, arr1 ht, hs, run_underlying hd, goInt]
    unfold lenEv at h
    split at h
    · rename_i s h1 e
      obtain ⟨d, hd, _, hsd⟩ := ti_one (hc.ti t) h1
      simp only [shDesc] at hsd; subst hsd
      rw [e] at hy; simp only [DR, VR] at hy
      obtain ⟨s', hy, rfl⟩ := hy
      exact go _ _ hd (.inl ⟨rfl, s', hy, Array.length_toList.symm⟩) (reach_just h)
    · rename_i h1 e
      obtain ⟨d, hd, _, e', hsd, _⟩ := ti_one (hc.ti t) h1
      rw [e] at hy; simp only [DR] at hy
      exact go 0 _ hd (.inr ⟨⟨e', hsd⟩, _, _, hy⟩) (reach_just h)
    · rename_i h1 e
      obtain ⟨d, hd, _, e', hsd, _⟩ := ti_one (hc.ti t) h1
      rw [e] at hy; simp only [DR, VR] at hy
      obtain ⟨a, k, hy, _⟩ := hy
      exact go _ _ hd (.inr ⟨⟨e', hsd⟩, _, _, hy⟩) (reach_just h)
    · rename_i h1 e
      obtain ⟨d, hd, _, e', hsd, _⟩ := ti_one (hc.ti t) h1
      split at h
      · rename_i hf
        rw [e] at hy; simp only [DR] at hy
        have := hy.2 _ _ (by rw [find_kd hsub hf]; rfl)
        rcases this with ⟨_, h0, hy⟩ | ⟨b, o', k, _, hy, _⟩
        · exact go _ _ hd (.inr ⟨⟨e', hsd⟩, none, 0, by rw [h0]; exact hy⟩) (reach_just h)
        · exact go _ _ hd (.inr ⟨⟨e', hsd⟩, _, _, hy⟩) (reach_just h)
      · cases h
    · rename_i lo hi h1 e
      obtain ⟨d, hd, _, e', hsd, _⟩ := ti_one (hc.ti t) h1
      split at h
      · rename_i hf
        rw [e] at hy; simp only [DR] at hy
        obtain ⟨l1, l2, hy⟩ := hy.2 _ _ (by rw [find_kd hsub hf]; rfl)
        rcases hy with ⟨_, h0, hy⟩ | ⟨b, o', k, _, _, _, hy | ⟨h9, _, hy⟩⟩
        · exact go _ _ hd (.inr ⟨⟨e', hsd⟩, none, 0, by rw [show hi - lo = 0 by omega]; exact hy⟩) (reach_just h)
        · exact go _ _ hd (.inr ⟨⟨e', hsd⟩, _, _, hy⟩) (reach_just h)
        · exact go _ _ hd (.inr ⟨⟨e', hsd⟩, _, 0, by rw [show hi - lo = 0 by omega]; exact hy⟩) (reach_just h)
      · cases h
    · cases h
  · cases h
end
end Go.Ev
