/- A part of the proof. -/
import Derived.Test.YtdlcimoofbhfaaaGreatEvO1
set_option linter.all false
set_option linter.constructorNameAsVariable false
set_option linter.unusedVariables false
set_option linter.unusedSimpArgs false
namespace Go.Ev
section
variable {P : Program} {c : Ctx} {H : Hp} {Q : QM} {Im : IM} {w : World} {val : Operand → D} {ρ : Operand → Value} {hpE : Heap} {nid : Nat} {o : Oper} {x : D × Dl}
theorem guard_plain (op : BinOp) (t : TypeId) (y z : Operand) (a b : Value) (h1 : ∀ c, a ≠ .agg c) (h2 : a ≠ .nilIface) : (eqGuard op t y z a b).run P w = .ok () w := by
  cases a <;> first | exact absurd rfl (h1 _) | exact absurd rfl h2 | (cases op <;> rfl)
theorem run_bin {op : BinOp} {t : TypeId} {y z : Operand} {u : TypeId} (h : o.op = .binOp op t y z u) (hg : (eqGuard op t y z (ρ y) (ρ z)).run P w = .ok () w) {v : Value} (hb : (binOp op t (ρ y) (ρ z)).run P w = .ok v w) :
    (execOp ρ o).run P w = .ok (.value v) w := by
  simp [execOp, h, hg, hb]
theorem dec_beq (a b : Int) : decide (a = b) = (a == b) := by rw [Bool.eq_iff_iff, decide_eq_true_iff, beq_iff_eq]
theorem run_binI (op : BinOp) (hs : op ≠ .shl) (hs' : op ≠ .shr) (k : IntKind) (a b : Int) (t : TypeId) : binOp op t (.int k a) (.int k b) =
    match op with
    | .add | .sub | .mul => Op.intArith op k a b
    | .quo | .rem => Op.intDiv op k a b
    | .and | .or | .xor | .andNot => Op.intBits op k a b
    | _ => Op.intCmp op a b := by
  cases op <;> first | exact absurd rfl hs | exact absurd rfl hs' | simp only [binOp, ne_eq, not_true_eq_false, if_false]
theorem run_intEv {k : IntKind} {op : BinOp} {a b : Int} (hs : op ≠ .shl) (hs' : op ≠ .shr) {okp} (h : Reach okp (intEv op k a b) x) {t : TypeId} :
    ∃ d v, x = (d, {}) ∧ (binOp op t (.int k a) (.int k b)).run P w = .ok v w ∧ ∀ {Im K Q}, DR P w Im K Q d v := by
  rw [run_binI op hs hs']
  cases op <;> simp only [intEv, intCmp] at h
  case shl => exact absurd rfl hs
  case shr => exact absurd rfl hs'
  case quo => cases h with | req hb h => rw [reach_just h]; exact ⟨_, .int k (k.wrap (a.tdiv b)), rfl, by simp only [Op.intDiv, hb, if_false]; rfl, by intros; simp only [DR, VR]⟩
  case rem => cases h with | req hb h => rw [reach_just h]; exact ⟨_, .int k (a.tmod b), rfl, by simp only [Op.intDiv, hb, if_false]; rfl, by intros; simp only [DR, VR]⟩
  case eql => rw [reach_just h]; exact ⟨_, .bool (a == b), rfl, rfl, by intros; simp only [DR, VR, dec_beq]⟩
  case neq => rw [reach_just h]; exact ⟨_, .bool (a != b), rfl, rfl, by intros; simp only [DR, VR, dec_beq, bne]⟩
  case lss => rw [reach_just h]; exact ⟨_, .bool (decide (a < b)), rfl, rfl, by intros; simp only [DR, VR]⟩
  case leq => rw [reach_just h]; exact ⟨_, .bool (decide (a ≤ b)), rfl, rfl, by intros; simp only [DR, VR]⟩
  case gtr => rw [reach_just h]; exact ⟨_, .bool (decide (a > b)), rfl, rfl, by intros; simp only [DR, VR]⟩
  case geq => rw [reach_just h]; exact ⟨_, .bool (decide (a ≥ b)), rfl, rfl, by intros; simp only [DR, VR]⟩
  all_goals
    rw [reach_just h]
    exact ⟨_, _, rfl, rfl, by intros; simp only [DR, VR]⟩
theorem str_list (s : ByteArray) : s.toList = s.data.toList := ByteArray.toList_eq s
theorem dec_beqL (a b : List UInt8) : decide (a = b) = (a == b) := by
  rw [Bool.eq_iff_iff, decide_eq_true_iff, beq_iff_eq]
theorem run_strEv {op : BinOp} {a b : ByteArray} {okp} (h : Reach okp (strEv op a.data.toList b.data.toList) x) {t : TypeId} :
    ∃ d v, x = (d, {}) ∧ (binOp op t (.string a) (.string b)).run P w = .ok v w ∧ ∀ {Im K Q}, DR P w Im K Q d v := by
  cases op <;> simp only [strEv] at h
  case add =>
    cases h with
    | req hb h =>
      rw [reach_just h]
      have hs : ¬ (((a.size + b.size : Nat) : Int) > IntKind.i64.max) := by
        have e1 : a.data.toList.length = a.size := Array.length_toList
        have e2 : b.data.toList.length = b.size := Array.length_toList
        rw [e1, e2] at hb
        have e3 : IntKind.i64.max = 9223372036854775807 := by decide
        rw [e3]; omega
      refine ⟨_, .string (a ++ b), rfl, ?_, ?_⟩
      · simp only [binOp, Op.stringOp, hs, if_false]; rfl
      · intro Im K Q; simp only [DR, VR]; exact ⟨_, rfl, by simp⟩
  case eql => rw [reach_just h]; exact ⟨_, .bool (a.toList == b.toList), rfl, rfl, by intros; simp only [DR, VR, str_list, dec_beqL]⟩
  case neq => rw [reach_just h]; exact ⟨_, .bool !(a.toList == b.toList), rfl, rfl, by intros; simp only [DR, VR, str_list, dec_beqL]⟩
  case lss => rw [reach_just h]; exact ⟨_, .bool (Op.bytesLess a.toList b.toList), rfl, rfl, by intros; simp only [DR, VR, str_list]⟩
  case leq => rw [reach_just h]; exact ⟨_, .bool (Op.bytesLess a.toList b.toList || a.toList == b.toList), rfl, rfl, by intros; simp only [DR, VR, str_list, dec_beqL]⟩
  case gtr => rw [reach_just h]; exact ⟨_, .bool !(Op.bytesLess a.toList b.toList || a.toList == b.toList), rfl, rfl, by intros; simp only [DR, VR, str_list, dec_beqL]⟩
  case geq => rw [reach_just h]; exact ⟨_, .bool !(Op.bytesLess a.toList b.toList), rfl, rfl, by intros; simp only [DR, VR, str_list]⟩
  all_goals cases h
theorem dec_beqB (a b : Bool) : decide (a = b) = (a == b) := by cases a <;> cases b <;> rfl
theorem run_boolEv {op : BinOp} {a b : Bool} {okp} (h : Reach okp (boolEv op a b) x) {t : TypeId} (ht : P.underlying t = some .bool) :
    ∃ d v, x = (d, {}) ∧ (binOp op t (.bool a) (.bool b)).run P w = .ok v w ∧ ∀ {Im K Q}, DR P w Im K Q d v := by
  cases op <;> simp only [boolEv] at h
  case eql =>
    rw [reach_just h]
    refine ⟨_, .bool (a == b), rfl, ?_, by intros; simp only [DR, VR, dec_beqB]⟩
    simp only [binOp, Op.equal, Op.maxDepth, Sem.run_bind, run_equalIn_bool' w 9999 t a b ht, Result.andThen_ok, Sem.run_pure]
  case neq =>
    rw [reach_just h]
    refine ⟨_, .bool !(a == b), rfl, ?_, by intros; simp only [DR, VR, dec_beqB]⟩
    simp only [binOp, Op.equal, Op.maxDepth, Sem.run_bind, run_equalIn_bool' w 9999 t a b ht, Result.andThen_ok, Sem.run_pure]
  all_goals cases h
theorem asB_val {d : D} {t : Bool} {K : Nat → Option Kd} {u : Value} (h : asB d = some t) (hd : DR P w Im K Q d u) : u = .bool t := by
  unfold asB at h
  split at h
  · simp only [DR] at hd; cases h; exact hd
  · simp only [DR, VR] at hd; cases h; exact hd
  · cases h
theorem eqCell_run {K : Nat → Option Kd} {d e : D} {t : Bool} {u v : Value} {sh : Sh} (h : eqCell sh d e = some t) (hd : DR P w Im K Q d u) (he : DR P w Im K Q e v) {T : TypeId}
    (hs : fldD P T sh) (n : Nat) :
    (Op.equalIn (n + 1) T u v).run P w = .ok t w := by
  unfold eqCell at h
  split at h
  · rename_i k0 k a k' b
    simp only [DR, VR] at hd he
    subst hd he
    simp only [fldD] at hs
    split at h
    · rename_i hkk; subst hkk; cases h
      rw [run_equalIn_int w n T _ _ a b hs, dec_beq]
    · cases h
  · rename_i a b
    simp only [DR, VR] at hd he
    obtain ⟨s, rfl, rfl⟩ := hd
    obtain ⟨s', rfl, rfl⟩ := he
    cases h
    simp only [fldD] at hs
    rw [run_equalIn_string w n T s s' hs, dec_beqL, str_list, str_list]
  · split at h
    · rename_i x y h1 h2
      cases h
      have e1 := asB_val h1 hd
      have e2 := asB_val h2 he
      subst e1 e2
      simp only [fldD] at hs
      rw [run_equalIn_bool' w n T x y hs, dec_beqB]
    · cases h
  · cases h
theorem part_one {T : TypeId} {d : TypeDesc} (hd : P.underlying T = some d) (ha : isAggD d = false) {cs : Array Value} {n : Nat} {u : Value} (hu : cs[n]? = some u) : (part T cs n).run P w = .ok u w := by
  unfold part isAgg
  simp only [Sem.run_bind, run_underlying hd, Result.andThen_ok]
  cases d <;> first | (simp only [isAggD] at ha; cases ha; done) | (simp only [Sem.run_pure, Result.andThen_ok, Bool.false_eq_true, if_false, hu])
theorem eqCells_run {K : Nat → Option Kd} : ∀ (n : Nat) (shs : List Sh) (ds es : List D) (us vs : List Value) (fs : List Field) (t : Bool) (xs ys : Array Value),
    eqCells shs ds es = some t → DRL P w Im K Q ds us → DRL P w Im K Q es vs → eqFs P n shs fs → (∀ (j : Nat) u, us[j]? = some u → xs[n + j]? = some u) → (∀ (j : Nat) u, vs[j]? = some u → ys[n + j]? = some u) →
    (Op.eqFields 9999 xs ys fs).run P w = .ok t w
  | n, [], [], [], us, vs, fs, t, xs, ys, h, hd, he, hf, hx, hy => by
    simp only [eqCells] at h; cases h
    simp only [eqFs] at hf; subst hf
    rfl
  | n, [s], [a], [b], us, vs, fs, t, xs, ys, h, hd, he, hf, hx, hy => by
    simp only [eqCells] at h
    simp only [DRL] at hd he
    obtain ⟨u, us', rfl, hu, rfl⟩ := hd
    obtain ⟨v, vs', rfl, hv, rfl⟩ := he
    simp only [eqFs] at hf
    obtain ⟨f, fs', rfl, h1, h2, h3, rfl⟩ := hf
    have e1 := eqCell_run h hu hv h3 9998
    have hag : ∃ d, P.underlying f.type = some d ∧ isAggD d = false := by
      cases s <;> simp only [fldD] at h3 <;> first | exact ⟨_, h3, rfl⟩ | exact h3.elim
    obtain ⟨d, hd1, hd2⟩ := hag
    have p1 := part_one (w := w) hd1 hd2 (cs := xs) (n := f.offset) (u := u) (by rw [h2]; exact hx 0 u rfl)
    have p2 := part_one (w := w) hd1 hd2 (cs := ys) (n := f.offset) (u := v) (by rw [h2]; exact hy 0 v rfl)
    simp only [Op.eqFields, h1, ne_eq, not_false_eq_true, if_true, Sem.run_bind, p1, p2, Result.andThen_ok, e1]
    cases t <;> rfl
  | n, s :: s' :: q, a :: c :: r, b :: d :: t', us, vs, fs, t, xs, ys, h, hd, he, hf, hx, hy => by
    simp only [eqCells] at h
    split at h
    · rename_i x y hx1 hy1
      cases h
      rw [DRL] at hd he
      obtain ⟨u, us', rfl, hu, hd'⟩ := hd
      obtain ⟨v, vs', rfl, hv, he'⟩ := he
      rw [eqFs] at hf
      obtain ⟨f, fs', rfl, h1, h2, h3, h4⟩ := hf
      have e1 := eqCell_run hx1 hu hv h3 9998
      have hag : ∃ d, P.underlying f.type = some d ∧ isAggD d = false := by
        cases s <;> simp only [fldD] at h3 <;> first | exact ⟨_, h3, rfl⟩ | exact h3.elim
      obtain ⟨dd, hd1, hd2⟩ := hag
      have p1 := part_one (w := w) hd1 hd2 (cs := xs) (n := f.offset) (u := u) (by rw [h2]; exact hx 0 u rfl)
      have p2 := part_one (w := w) hd1 hd2 (cs := ys) (n := f.offset) (u := v) (by rw [h2]; exact hy 0 v rfl)
      have ih := eqCells_run (n + 1) (s' :: q) (c :: r) (d :: t') us' vs' fs' y xs ys hy1 hd' he' h4
        (fun j u' hj => by have := hx (j + 1) u' (by simpa using hj); rwa [show n + (j + 1) = n + 1 + j by omega] at this)
        (fun j u' hj => by have := hy (j + 1) u' (by simpa using hj); rwa [show n + (j + 1) = n + 1 + j by omega] at this)
      simp only [Op.eqFields, h1, ne_eq, not_false_eq_true, if_true, Sem.run_bind, p1, p2, Result.andThen_ok, e1]
      cases x
      · simp
      · simpa using ih
    · cases h
  | n, [], [], _ :: _, _, _, _, _, _, _, h, _, _, _, _, _ => by simp [eqCells] at h
  | n, [], _ :: _, _, _, _, _, _, _, _, h, _, _, _, _, _ => by simp [eqCells] at h
  | n, [_], [], _, _, _, _, _, _, _, h, _, _, _, _, _ => by simp [eqCells] at h
  | n, [_], [_], [], _, _, _, _, _, _, h, _, _, _, _, _ => by simp [eqCells] at h
  | n, [_], [_], _ :: _ :: _, _, _, _, _, _, _, h, _, _, _, _, _ => by simp [eqCells] at h
  | n, [_], _ :: _ :: _, _, _, _, _, _, _, _, h, _, _, _, _, _ => by simp [eqCells] at h
  | n, _ :: _ :: _, [], _, _, _, _, _, _, _, h, _, _, _, _, _ => by simp [eqCells] at h
  | n, _ :: _ :: _, [_], _, _, _, _, _, _, _, h, _, _, _, _, _ => by simp [eqCells] at h
  | n, _ :: _ :: _, _ :: _ :: _, [], _, _, _, _, _, _, h, _, _, _, _, _ => by simp [eqCells] at h
  | n, _ :: _ :: _, _ :: _ :: _, [_], _, _, _, _, _, _, h, _, _, _, _, _ => by simp [eqCells] at h
theorem isE_eq {l : List Sh} (h : isE l = true) : l = [.e] := by
  unfold isE at h; split at h <;> first | rfl | cases h
theorem isB_eq {l : List Sh} (h : isB l = true) : l = [.b] := by
  unfold isB at h; split at h <;> first | rfl | cases h
theorem eq_nn {t : TypeId} {ms : Array (String × TypeId)} (hd : P.underlying t = some (.interface ms)) (n : Nat) : (Op.equalIn (n + 1) t .nilIface .nilIface).run P w = .ok true w := by
  simp only [Op.equalIn, Sem.run_bind, run_underlying hd, Result.andThen_ok, Sem.run_pure]
theorem eq_in {t u : TypeId} {v : Value} {ms : Array (String × TypeId)} (hd : P.underlying t = some (.interface ms)) (n : Nat) : (Op.equalIn (n + 1) t (.iface u v) .nilIface).run P w = .ok false w := by
  simp only [Op.equalIn, Sem.run_bind, run_underlying hd, Result.andThen_ok, Sem.run_pure]
theorem sim_bin (hc : CtxOk P c) (hw : WR P H Q Im w) (hv : ∀ x, DR P w Im H.kd Q (val x) (ρ x)) {op : BinOp} {t u : TypeId} {y z : Operand} (ho : o.op = .binOp op t y z u)
    (h : Reach c.okp (evOp c val hpE nid (.binOp op t y z u)) x) : Sim P H Q Im w ρ o nid x := by
  have hy := hv y
  have hz := hv z
  have hti := hc.ti t
  simp only [evOp] at h
  have fin : ∀ {d : D} {v : Value}, (∀ c, ρ y ≠ .agg c) → ρ y ≠ .nilIface → x = (d, {}) → (binOp op t (ρ y) (ρ z)).run P w = .ok v w → DR P w Im H.kd Q d v → Sim P H Q Im w ρ o nid x := by
    intro d v h1 h2 hx hb hd
    rw [hx]
    exact sim_value hw (run_bin ho (guard_plain op t y z _ _ h1 h2) hb) rfl hd
  unfold binEv at h
  split at h
  · rename_i k a k' b ey ez
    rw [ey] at hy; rw [ez] at hz
    simp only [DR, VR] at hy hz
    split at h
    · cases h with
      | req hb h =>
        refine fin (by rw [hy]; intro c; simp) (by rw [hy]; simp) (reach_just h) (v := .int k (k.wrap (a * 2 ^ (min b.toNat k.bits)))) ?_ (by simp only [DR, VR])
        rw [hy, hz]
        have : ¬ (b : Int) < 0 := Int.not_lt.mpr hb
        simp only [binOp, Op.shift, this, if_false]; rfl
    · cases h with
      | req hb h =>
        refine fin (by rw [hy]; intro c; simp) (by rw [hy]; simp) (reach_just h) (v := .int k (a.fdiv (2 ^ (min b.toNat k.bits)))) ?_ (by simp only [DR, VR])
        rw [hy, hz]
        have : ¬ (b : Int) < 0 := Int.not_lt.mpr hb
        simp only [binOp, Op.shift, this, if_false]; rfl
    · rename_i n1 n2
      split at h
      · rename_i hk
        subst hk
        obtain ⟨d, v, h1, h2, h3⟩ := run_intEv (P := P) (w := w) (t := t) (fun e => n1 e) (fun e => n2 e) h
        rw [← hy, ← hz] at h2
        exact fin (by rw [hy]; intro c; simp) (by rw [hy]; simp) h1 h2 h3
      · cases h
  · rename_i a b ey ez
    rw [ey] at hy; rw [ez] at hz
    simp only [DR, VR] at hy hz
    obtain ⟨s, hy, rfl⟩ := hy
    obtain ⟨s', hz, rfl⟩ := hz
    obtain ⟨d, v, h1, h2, h3⟩ := run_strEv (P := P) (w := w) (t := t) h
    rw [← hy, ← hz] at h2
    exact fin (by rw [hy]; intro c; simp) (by rw [hy]; simp) h1 h2 h3
  · rename_i a ey ez
    rw [ey] at hy; rw [ez] at hz
    simp only [DR, VR] at hy hz
    split at h
    · rename_i hcc
      simp only [Bool.and_eq_true, Bool.not_eq_true'] at hcc
      obtain ⟨he, hcy, hnag⟩ := hcc
      have hcs := isE_eq he
      rcases hti with h0 | ⟨_, hf⟩
      · rw [h0.1] at hcs; cases hcs
      cases hf.desc with
      | agg fs hag hfs hfld hz0 heqf => rw [hag] at hnag; cases hnag
      | one sh d hag heq hfs0 hsh hd hda hsd =>
        rw [hcs] at hsh; cases hsh
        obtain ⟨ms, rfl⟩ := hsd
        have hgr : (eqGuard op t y z (ρ y) (ρ z)).run P w = .ok () w := by
          obtain ⟨cv, rfl⟩ : ∃ cv, z = .const cv := by cases z <;> first | exact ⟨_, rfl⟩ | (simp [isConst] at hcy)
          rcases hy with ⟨_, hy⟩ | ⟨_, t1, u1, hy⟩
          · rw [hy, hz]; cases op <;> simp [eqGuard]
          · rw [hy]; exact guard_plain op t y _ _ _ (by intro c; simp) (by simp)
        have hop : ∃ b : Bool, (binOp op t (ρ y) (ρ z)).run P w = .ok (.bool b) w ∧ x = (.v .b b, {}) := by
          split at h
          · rw [reach_just h]
            refine ⟨a, ?_, rfl⟩
            rcases hy with ⟨e1, hy⟩ | ⟨e1, t1, u1, hy⟩ <;> rw [hy, hz, e1]
            · show Sem.run P (do pure (.bool (← Op.equalIn 10000 t .nilIface .nilIface)) : Sem Value) w = _
              rw [Sem.run_bind, eq_nn hd 9999]; rfl
            · show Sem.run P (do pure (.bool (← Op.equalIn 10000 t (.iface t1 u1) .nilIface)) : Sem Value) w = _
              rw [Sem.run_bind, eq_in hd 9999]; rfl
          · rw [reach_just h]
            refine ⟨!a, ?_, rfl⟩
            rcases hy with ⟨e1, hy⟩ | ⟨e1, t1, u1, hy⟩ <;> rw [hy, hz, e1]
            · show Sem.run P (do pure (.bool (!(← Op.equalIn 10000 t .nilIface .nilIface))) : Sem Value) w = _
              rw [Sem.run_bind, eq_nn hd 9999]; rfl
            · show Sem.run P (do pure (.bool (!(← Op.equalIn 10000 t (.iface t1 u1) .nilIface))) : Sem Value) w = _
              rw [Sem.run_bind, eq_in hd 9999]; rfl
          · cases h
        obtain ⟨b, hb, hx⟩ := hop
        rw [hx]
        exact sim_value hw (run_bin ho hgr hb) rfl (by simp only [DR, VR])
    · cases h
  · rename_i a b ey ez
    rw [ey] at hy; rw [ez] at hz
    simp only [DR] at hy hz
    obtain ⟨us, hy, hus⟩ := hy
    obtain ⟨vs, hz, hvs⟩ := hz
    split at h
    · rename_i heq
      rcases hti with h0 | ⟨_, hf⟩
      · rw [h0.2.2.2] at heq; cases heq
      cases hf.desc with
      | one sh d hag heq' hfs0 => rw [heq'] at heq; cases heq
      | agg fs hag hfs' hfld hz0 heqf =>
        have hfs := hfs'.1
        obtain ⟨g1, g2, g3⟩ := heqf heq
        have hfo : P.fieldsOf t = fs := by simp only [Program.fieldsOf, hfs]
        have key : ∀ tt, eqCells (c.Θ t).cs a b = some tt → (Op.equalIn 10000 t (.agg us.toArray) (.agg vs.toArray)).run P w = .ok tt w := by
          intro tt ht
          rw [run_equalIn_agg w 9999 t us.toArray vs.toArray (by rw [hfo]; exact hfs) g2, hfo]
          exact eqCells_run 0 (c.Θ t).cs a b us vs fs.toList tt us.toArray vs.toArray ht hus hvs g3 (fun j u hj => by simpa using hj) (fun j u hj => by simpa using hj)
        have hgr : (eqGuard op t y z (ρ y) (ρ z)).run P w = .ok () w := by rw [hy, hz]; exact run_eqGuard_agg w op t y z us.toArray vs.toArray g1
        split at h
        · obtain ⟨tt, h1, h⟩ := reach_ofO h
          rw [reach_just h]
          refine sim_value hw (run_bin ho hgr (v := .bool tt) ?_) rfl (by simp only [DR, VR])
          rw [hy, hz, run_eql_struct, key tt h1]; rfl
        · obtain ⟨tt, h1, h⟩ := reach_ofO h
          rw [reach_just h]
          refine sim_value hw (run_bin ho hgr (v := .bool !tt) ?_) rfl (by simp only [DR, VR])
          rw [hy, hz, run_neq_struct, key tt h1]; rfl
        · cases h
    · cases h
  · split at h
    · rename_i hb
      simp only [Bool.and_eq_true, Bool.not_eq_true'] at hb
      obtain ⟨hb, hnag⟩ := hb
      have hcs := isB_eq hb
      rcases hti with h0 | ⟨_, hf⟩
      · rw [h0.1] at hcs; cases hcs
      cases hf.desc with
      | agg fs hag hfs hfld hz0 heqf => rw [hag] at hnag; cases hnag
      | one sh d hag heq hfs0 hsh hd hda hsd =>
        rw [hcs] at hsh; cases hsh
        simp only [shDesc] at hsd; subst hsd
        obtain ⟨p, hp, h⟩ := reach_ofO h
        obtain ⟨q, hq, h⟩ := reach_ofO h
        have e1 := asB_val hp hy
        have e2 := asB_val hq hz
        obtain ⟨d, v, h1, h2, h3⟩ := run_boolEv (P := P) (w := w) (t := t) h hd
        rw [← e1, ← e2] at h2
        exact fin (by rw [e1]; intro c; simp) (by rw [e1]; simp) h1 h2 h3
    · cases h
end
end Go.Ev
