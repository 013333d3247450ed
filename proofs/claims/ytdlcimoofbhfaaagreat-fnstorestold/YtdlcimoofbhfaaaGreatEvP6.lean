/- A part of the proof. -/
import Derived.Test.YtdlcimoofbhfaaaGreatEvP5
set_option linter.all false
set_option linter.constructorNameAsVariable false
set_option linter.unusedVariables false
set_option linter.unusedSimpArgs false
namespace Go.Ev
section
variable {P : Program} {c : Ctx} {H : Hp} {Q : QM} {Im : IM} {w : World} {val : Operand → D} {ρ : Operand → Value} {hpE : Heap} {nid : Nat} {o : Oper} {x : D × Dl}
theorem toR_rows (hw : WR P H Q Im w) (hsub : ∀ id h, hpE.find id = some h → H id = some h) {rs : List Sh} {d : D} {m : List (tyL rs)} {sn : List Nat} {u : Value}
    (h : toR hpE (.sl rs) d = some (m, sn)) (hd : DR P w Im H.kd Q d u) : ∃ a cap, u = .slice a m.length cap ∧ (m = [] ∨ ∃ b o us, a = some ⟨b, o, none⟩ ∧ Rows P w Im rs m us ∧ cellsAt w b o us) := by
  cases d <;> simp only [toR] at h <;> first | (cases h; done) | skip
  · rename_i sh y
    simp only [Option.map_eq_some_iff, Prod.mk.injEq] at h
    obtain ⟨z, h1, rfl, rfl⟩ := h
    obtain ⟨e, rfl⟩ := castR_eq h1
    subst e
    simp only [DR, VR] at hd
    obtain ⟨a, cap, rfl, hcap, hrow⟩ := hd
    refine ⟨a, cap, rfl, ?_⟩
    by_cases hn : y = []
    · exact .inl hn
    · obtain ⟨b, o, rfl, hI, hrow⟩ := hrow hn
      obtain ⟨us, h1, h2⟩ := Rows.of (P := P) (w := w) (Im := Im) y (fun k => w.cell? ⟨b, k, none⟩) o hrow
      exact .inr ⟨b, o, us, rfl, h1, h2⟩
  · cases h
    simp only [DR] at hd
    exact ⟨none, 0, hd, .inl rfl⟩
  · simp only [Option.map_eq_some_iff, Prod.mk.injEq] at h
    obtain ⟨l, h1, rfl, rfl⟩ := h
    simp only [DR] at hd
    obtain ⟨i, r, hf⟩ := bufOf_eq h1
    rcases hd.2 _ _ (by rw [find_kd hsub hf]; rfl) with ⟨h0, h1, rfl⟩ | ⟨b, o, cap, hq, rfl, h1, h2⟩
    · exact ⟨none, 0, by rw [h1], .inl (List.length_eq_zero_iff.1 h1)⟩
    · refine ⟨_, cap, rfl, ?_⟩
      rcases (find_ob hw hsub hf).rows with ⟨_, h0⟩ | ⟨b', o', cs, e, fz, us, hq', hb, hfz, hsz, hrow, hcs⟩
      · exact .inl h0
      · rw [hq] at hq'; cases hq'
        exact .inr ⟨b, o, us, rfl, hrow, cellsAt_of hb hcs⟩
  · rename_i id lo hi
    simp only [Option.map_eq_some_iff, Prod.mk.injEq] at h
    obtain ⟨l, h1, rfl, rfl⟩ := h
    simp only [DR] at hd
    obtain ⟨i, r, hf⟩ := bufOf_eq h1
    obtain ⟨g1, g2, g3⟩ := hd.2 _ _ (by rw [find_kd hsub hf]; rfl)
    have hlen : ((l.take hi).drop lo).length = hi - lo := by simp; omega
    have hnil : hi = lo → (l.take hi).drop lo = [] := by intro h9; exact List.length_eq_zero_iff.1 (by rw [hlen]; omega)
    rcases g3 with ⟨_, h0, rfl⟩ | ⟨b, o, cap, hq, h3, h4, rfl | ⟨h5, _, rfl⟩⟩
    · exact ⟨none, 0, by rw [hlen, show hi - lo = 0 by omega], .inl (hnil (by omega))⟩
    · refine ⟨_, cap, by rw [hlen], ?_⟩
      rcases (find_ob hw hsub hf).rows with ⟨_, h0⟩ | ⟨b', o', cs, e, fz, us, hq', hb, hfz, hsz, hrow, hcs⟩
      · subst h0; exact .inl (by simp)
      · rw [hq] at hq'; cases hq'
        refine .inr ⟨b, o + lo * rs.length, _, rfl, (hrow.take hi).drop lo, cellsAt_of hb (fun j u hj => ?_)⟩
        rw [List.getElem?_drop, List.getElem?_take] at hj
        split at hj
        · have := hcs _ u hj
          rwa [← Nat.add_assoc] at this
        · cases hj
    · exact ⟨_, 0, by rw [hlen, show hi - lo = 0 by omega], .inl (hnil h5)⟩
structure Src (P : Program) (w : World) (Im : IM) (rs : List Sh) (m : List (tyL rs)) (u : Value) (news : List Value) : Prop where
  rows : Rows P w Im rs m news
  len : ∀ w2, (Builtin.lenOf u).run P w2 = .ok m.length w2
  cells : ∀ w2, w2.heap = w.heap → (Builtin.firstCells rs.length m.length u).run P w2 = .ok news.toArray w2
theorem src_sl (hw : WR P H Q Im w) (hsub : ∀ id h, hpE.find id = some h → H id = some h) {rs : List Sh} {d : D} {m : List (tyL rs)} {sn : List Nat} {u : Value}
    (h : toR hpE (.sl rs) d = some (m, sn)) (hd : DR P w Im H.kd Q d u) : ∃ news, Src P w Im rs m u news := by
  obtain ⟨a, cap, rfl, hm⟩ := toR_rows hw hsub h hd
  rcases hm with rfl | ⟨b, o, us, rfl, h1, h2⟩
  · refine ⟨[], by simp [Rows], fun w2 => by simp [Builtin.lenOf], fun w2 hh => ?_⟩
    cases a with
    | none => exact run_firstCells_none _ _ _ _ _
    | some a => exact run_firstCells_some w2 rs.length _ a _ cap [] (by simp) (by simp)
  · refine ⟨us, h1, fun w2 => by simp [Builtin.lenOf], fun w2 hh => ?_⟩
    exact run_firstCells_some w2 rs.length _ _ _ cap us h1.length (fun j v hj => by
      rw [add_none]
      have := h2 j v hj
      simp only [World.cell?, hh] at this ⊢
      exact this)
theorem src_str {s : ByteArray} : Src P w Im [.i .u8] (strBytes s.data.toList) (.string s) (s.data.toList.map fun b => Value.int .u8 b.toNat) where
  rows := by
    generalize s.data.toList = l
    induction l with
    | nil => simp [strBytes, Rows]
    | cons b r ih =>
      simp only [strBytes, List.map_cons, Rows]
      exact ⟨[_], _, rfl, by simp only [CR, VR]; exact ⟨_, rfl, rfl⟩, ih⟩
  len := fun w2 => by simp only [Builtin.lenOf, strBytes, List.length_map, Array.length_toList]; rfl
  cells := fun w2 _ => by
    have e : (strBytes s.data.toList).length = s.size := by simp only [strBytes, List.length_map, Array.length_toList]; rfl
    have hx : (Array.map (fun b : UInt8 => Value.int IntKind.u8 (b.toNat : Int)) s.data).extract 0 s.size = Array.map (fun b : UInt8 => Value.int IntKind.u8 (b.toNat : Int)) s.data := by
      have hs : s.size = (Array.map (fun b : UInt8 => Value.int IntKind.u8 (b.toNat : Int)) s.data).size := by rw [Array.size_map]; rfl
      rw [hs, Array.extract_size]
    rw [e]
    simp only [Builtin.firstCells, Sem.run_pure]
    congr 1
    apply Array.ext'
    simp
def seqDesc (d : TypeDesc) : Prop := d = .string ∨ ∃ e, d = .slice e
theorem run_app_room {t u e : TypeId} {ty : TypeId} {i : TypeInfo} {du : TypeDesc} (ht : P.underlying t = some (.slice e)) (hu : P.underlying u = some du) (hdu : seqDesc du) (hi : P.info? e = some i)
    {rs : List Sh} {m : List (tyL rs)} {x : Value} {news : List Value} (hs : Src P w Im rs m x news) (hsz : i.size = rs.length) {base : Option Addr} {sLen sCap : Nat} (hroom : sLen + m.length ≤ sCap) {w' : World}
    (hst : ∀ a, base = some a → (storeCells (a.add (sLen * rs.length)) news).run P w = .ok () w') (hno : base = none → w' = w) :
    (Builtin.append_ #[t, u] ty #[.slice base sLen sCap, x]).run P w = .ok (.slice base (sLen + m.length) sCap) w' := by
  have h1 := hs.len w
  have h2 := hs.cells w rfl
  rcases hdu with rfl | ⟨e', rfl⟩ <;> cases base with
  | none => simp [Builtin.append_, run_underlying ht, run_underlying hu, sizeOf, typeInfo, hi, hsz, h1, h2, hroom, hno]
  | some a => simp [Builtin.append_, run_underlying ht, run_underlying hu, sizeOf, typeInfo, hi, hsz, h1, h2, hroom, hst a rfl]
theorem run_app_grow {t u e : TypeId} {ty : TypeId} {i : TypeInfo} {z : Value} {du : TypeDesc} (ht : P.underlying t = some (.slice e)) (hu : P.underlying u = some du) (hdu : seqDesc du) (hi : P.info? e = some i) (hz : i.zero = some z)
    {rs : List Sh} {m : List (tyL rs)} {x : Value} {news olds : List Value} (hs : Src P w Im rs m x news) (hsz : i.size = rs.length) {base : Option Addr} {sLen sCap : Nat}
    (hold : ∀ w2, w2.heap = w.heap → (Builtin.firstCells rs.length sLen (.slice base sLen sCap)).run P w2 = .ok olds.toArray w2)
    (hg : sCap < sLen + m.length) (h63 : sLen + m.length ≤ 1073741824) (hby : i.bytes ≤ 65536) :
    (Builtin.append_ #[t, u] ty #[.slice base sLen sCap, x]).run P w = .ok (.slice (some ⟨w.heap.size, 0, none⟩) (sLen + m.length) (grownCap w (sLen + m.length) sCap e))
        (w.drew.alloc (.cells (olds.toArray ++ news.toArray ++ Builtin.zeroCells z.cells (grownCap w (sLen + m.length) sCap e - (sLen + m.length))) e)) := by
  have h1 := hs.len w
  have h2 := hs.cells w.drew rfl
  have h3 := hold w.drew rfl
  have hn : ¬ (sLen + m.length ≤ sCap) := by omega
  have h63' : ¬ (9223372036854775807 < ((sLen : Int) + (m.length : Int))) := by omega
  have hb1 : (sLen + m.length) * i.bytes ≤ 1073741824 * 65536 := Nat.mul_le_mul h63 hby
  have hb2 := growslice_fits (need := sLen + m.length) (old := sCap) (bytes := i.bytes) (by omega) (by omega)
  have h48' : ¬ (281474976710656 < Builtin.nextslicecap (sLen + m.length) sCap * i.bytes) := by omega
  rcases hdu with rfl | ⟨e', rfl⟩ <;>
  · simp [Builtin.append_, run_underlying ht, run_underlying hu, sizeOf, typeInfo, zeroValue, hi, hz, hsz, h1, h2, h3, hn, h63', h48', Question.forced, newRow, grownCap]
    congr 2
    apply Array.ext'
    simp [List.append_assoc]
theorem seq_ok (hc : CtxOk P c) {u : TypeId} (h : isSeq (c.Θ u).one = true) : ∃ du, P.underlying u = some du ∧ seqDesc du := by
  unfold isSeq at h
  split at h
  · rename_i h1
    obtain ⟨d, hd, _, hsd⟩ := ti_one (hc.ti u) h1
    exact ⟨d, hd, .inl hsd⟩
  · rename_i rs h1
    obtain ⟨d, hd, _, e, hsd, _⟩ := ti_one (hc.ti u) h1
    exact ⟨d, hd, .inr ⟨e, hsd⟩⟩
  · cases h
def srcEv (rs : List Sh) (y : D) (hp : Heap) : Option (List (tyL rs) × List Nat) := match rs, y with | [.i .u8], .v .s s => some (strBytes s, []) | rs, y => toR hp (.sl rs) y
theorem src_ok (hw : WR P H Q Im w) (hsub : ∀ id h, hpE.find id = some h → H id = some h) {rs : List Sh} {d : D} {m : List (tyL rs)} {sn : List Nat} {u : Value}
    (h : srcEv rs d hpE = some (m, sn)) (hd : DR P w Im H.kd Q d u) : ∃ news, Src P w Im rs m u news := by
  unfold srcEv at h
  split at h
  · cases h
    simp only [DR, VR] at hd
    obtain ⟨s, rfl, rfl⟩ := hd
    exact ⟨_, src_str⟩
  · exact src_sl hw hsub h hd
theorem app_cells {e : TypeId} {rs : List Sh} {l : List (tyL rs)} {us : List Value} {z : Value} {cap : Nat} (hr : Rows P w Im rs l us) (hz : z.cells.size = rs.length) (hcap : l.length ≤ cap) :
    (us.toArray ++ Builtin.zeroCells z.cells (cap - l.length)).size = cap * rs.length ∧ ∀ (j : Nat) u, us[j]? = some u → (us.toArray ++ Builtin.zeroCells z.cells (cap - l.length))[j]? = some u := by
  constructor
  · rw [Array.size_append, size_zeroCells, List.size_toArray, hr.length, hz, ← Nat.add_mul]
    congr 1; omega
  · intro j u hj
    have hlt := (List.getElem?_eq_some_iff.1 hj).1
    rw [Array.getElem?_append_left (by simpa using hlt)]
    simpa using hj
theorem Chg.none_new {dl : List Nat} {ob : Ob} (hw : WR P H Q Im w) (hnew : H nid = none) (hdl : WrOk H dl) : Chg H Q (Q.put nid none) w w [] nid { del := dl, put := [(nid, ob)] } where
  qt := rfl
  grow := Nat.le_refl _
  bs := fun _ _ k _ _ _ _ => .inr rfl
  ch := fun k _ => .inl rfl
  qs := fun i hi => by
    simp only [Dl.ids, List.map_cons, List.map_nil, List.mem_append, List.mem_singleton, not_or] at hi
    simp only [QM.put, if_neg hi.2]
  fro := fun s hs => by cases hs
  del := hdl
  kd := fun i ob' hl => by
    obtain ⟨rfl, rfl⟩ := look_one hl
    exact .inl ⟨hnew, Nat.le_refl _, by omega⟩
  own := fun i ob' b2 o2 hl hq2 => by
    obtain ⟨rfl, rfl⟩ := look_one hl
    simp [QM.put] at hq2
  inj := fun i i' ob1 ob2 b2 o2 o3 h1 h2 _ _ => by rw [(look_one h1).1, (look_one h2).1]
theorem sim_app_none {rs : List Sh} {dl : List Nat} (hw : WR P H Q Im w) (hf : Fr H val nid) (hdl : WrOk H dl) (hr : (execOp ρ o).run P w = .ok (.value (.slice none 0 0)) w) (hx : x = (.own nid, { del := dl, put := [(nid, .buf rs [])] })) :
    Sim P H Q Im w ρ o nid x := by
  subst hx
  have hg : Chg H Q (Q.put nid none) w w [] nid { del := dl, put := [(nid, .buf rs [])] } := Chg.none_new hw (hf.new nid (Nat.le_refl _) (by omega)) hdl
  have hst := hg.step hw hf.ob (fun id ob hl => by
    obtain ⟨rfl, rfl⟩ := look_one hl
    exact .inl ⟨by simp [QM.put], rfl⟩)
  refine sim_of hr hst ?_
  simp only [DR]
  refine ⟨rfl, fun n len hk => .inl ⟨by simp [QM.put], ?_, rfl⟩⟩
  have : (H.app { del := dl, put := [(nid, .buf rs [])] }).kd nid = some (.buf rs.length 0) := by
    simp [Hp.kd, Hp.app, look, Ob.kd]
  rw [this] at hk; cases hk; rfl
theorem chg_move {id b o' : Nat} {h : HO} {ob : Ob} {w' : World} {cs cs' : Array Value} {e : TypeId} {fz : Nat × Nat} (hw : WR P H Q Im w) (hid : H id = some h) (hro : h.ro = false) (hq : Q id = some (b, o')) (hnew : H nid = none)
    (hb : w.heap[b]? = some (.cells cs e fz)) (hsp : (w'.heap.size, outside w') = (w.heap.size, outside w)) (hsame : ∀ k, k ≠ b → w'.heap[k]? = w.heap[k]?) (hb' : w'.heap[b]? = some (.cells cs' e fz)) (hcs : cs'.size = cs.size) :
    Chg H Q (Q.put nid (some (b, o'))) w w' [] nid { del := [id], put := [(nid, ob)] } :=
  have hsz : w'.heap.size = w.heap.size := congrArg Prod.fst hsp
  {
  qt := congrArg Prod.snd hsp
  grow := by rw [hsz]; exact Nat.le_refl _
  bs := fun _ _ k _ _ _ _ => .inr (by
    by_cases hkb : k = b
    · subst hkb; simp only [bsize, hb, hb', hcs]
    · simp only [bsize, hsame k hkb])
  ch := fun k _ => by
    by_cases hkb : k = b
    · subst hkb; exact .inr ⟨id, h, o', by simp [Dl.ids], by simp, hid, hq⟩
    · exact .inl (hsame k hkb)
  qs := fun i hi => by
    simp only [Dl.ids, List.map_cons, List.map_nil, List.mem_append, List.mem_singleton, not_or] at hi
    simp only [QM.put, if_neg hi.2]
  fro := fun s hs => by cases hs
  del := fun s hs => by
    simp only [List.mem_singleton] at hs
    subst hs
    exact ⟨h, hid, hro⟩
  kd := fun i ob' hl => by
    obtain ⟨rfl, rfl⟩ := look_one hl
    exact .inl ⟨hnew, Nat.le_refl _, by omega⟩
  own := fun i ob' b2 o2 hl hq2 => by
    obtain ⟨rfl, rfl⟩ := look_one hl
    simp only [QM.put, if_true] at hq2
    cases hq2
    exact ⟨by rw [hsz]; exact (hw.own _ _ _ _ hid hq).1, .inr ⟨id, h, o', by simp [Dl.ids], by simp, hid, hq⟩⟩
  inj := fun i i' ob1 ob2 b2 o2 o3 h1 h2 _ _ => by rw [(look_one h1).1, (look_one h2).1] }
theorem sim_append (hc : CtxOk P c) (hw : WR P H Q Im w) (hv : ∀ x, DR P w Im H.kd Q (val x) (ρ x)) (hsub : ∀ id h, hpE.find id = some h → H id = some h) (hf : Fr H val nid) {cl : Call} (ho : o.op = .call cl) (hb : cl.callee = .builtin .append)
    (h : Reach c.okp (evOp c val hpE nid (.call cl)) x) : Sim P H Q Im w ρ o nid x := by
  simp only [evOp, hb] at h
  split at h
  · rename_i y z t u ha ht
    obtain ⟨rs, hrs, h⟩ := reach_ofO h
    obtain ⟨e, ht', hel⟩ := elemSh_ok hc hrs
    obtain ⟨ti, zv, hi, hsz, hb3, hb4, hzv, hzc⟩ := hel.info
    have hzl := zeroCells_length _ _ hzc
    have hzs : zv.cells.size = rs.length := by rw [← Array.length_toList]; exact hzl
    split at h
    · rename_i hseq
      obtain ⟨du, hu, hdu⟩ := seq_ok hc hseq
      obtain ⟨consts, hrun⟩ := run_call_builtin (P := P) (w := w) (ρ := ρ) ho hb
      have hexec : ∀ {v : Value} {w' : World}, (Builtin.append_ #[t, u] o.type #[ρ y, ρ z]).run P w = .ok v w' → (execOp ρ o).run P w = .ok (.value v) w' := by
        intro v w' h1
        rw [hrun]
        simp only [builtin, toList2 ha, toList2 ht, List.map_toArray, List.map_cons, List.map_nil, Sem.run_bind, h1, Result.andThen_ok, Sem.run_pure]
      have hy := hv y
      unfold appendEv at h
      split at h
      · cases h
      · rename_i m sn hm
        obtain ⟨news, hs⟩ := src_ok hw hsub (d := val z) (by unfold srcEv; exact hm) (hv z)
        have fresh : ∀ (dl : List Nat) (l : List (tyL rs)) (us : List Value) (base : Option Addr) (sCap : Nat), Rows P w Im rs l us → ρ y = .slice base l.length sCap → (∀ w2, w2.heap = w.heap → (Builtin.firstCells rs.length l.length (.slice base l.length sCap)).run P w2 = .ok us.toArray w2) →
            sCap < l.length + m.length → l.length + m.length ≤ bound → WrOk H dl → x = (.own nid, { del := dl, put := [(nid, .buf rs (l ++ m))] }) → Sim P H Q Im w ρ o nid x := by
          intro dl l us base sCap hr e1 hold hg h63 hdl hx
          have h1 := run_app_grow (ty := o.type) ht' hu hdu hi hzv hs hsz hold hg h63 hb4
          rw [← e1] at h1
          have hge := grownCap_ge w (l.length + m.length) sCap e
          have hrr := hr.append hs.rows
          obtain ⟨g1, g2⟩ := app_cells (e := e) (z := zv) (cap := grownCap w (l.length + m.length) sCap e) hrr hzs (by rw [List.length_append]; exact hge)
          have hlen : (l ++ m).length = l.length + m.length := List.length_append
          rw [hlen] at g1 g2
          refine sim_newbuf (u := .nilIface) (sn := []) (cs := (us ++ news).toArray ++ Builtin.zeroCells zv.cells (grownCap w (l.length + m.length) sCap e - (l.length + m.length))) (e := e) (fz := (0, 0)) (us := us ++ news) (cap := grownCap w (l.length + m.length) sCap e) (w' := w.drew.alloc _) hw hf ?_ rfl (freeB_zero _ _) (by rw [ImS_nil]; exact hrr) g2 (by rw [hlen]; exact hge) g1 hdl (fun i hi => by cases hi) hx
          rw [hlen]
          rw [hexec h1]
          simp
        split at h
        · rename_i ev
          cases h with
          | req hbd h =>
            cases h
            rw [ev] at hy; simp only [DR] at hy
            by_cases h0 : m = []
            · subst h0
              refine sim_app_none hw hf (dl := []) (fun i hi => by cases hi) (hexec ?_) rfl
              rw [hy]
              exact run_app_room (w' := w) ht' hu hdu hi hs hsz (sLen := 0) (sCap := 0) (by simp) (fun a ha => by cases ha) (fun _ => rfl)
            · have hpos : 0 < m.length := List.length_pos_iff.2 h0
              exact fresh [] [] [] none 0 (by simp [Rows]) hy (fun w2 _ => run_firstCells_none _ _ _ _ _) (by simpa using hpos) (by simpa using hbd) (fun i hi => by cases hi) rfl
        · rename_i id ev
          split at h
          · rename_i i rs' l hfd
            split at h
            · rename_i _ heq _
              subst heq
              split at h
              · cases h
              · rename_i hns
                cases h with
                | req hbd h =>
                  cases h
                  have hk : H.kd id = some (.buf rs.length l.length) := by rw [find_kd hsub hfd]; rfl
                  rw [ev] at hy; simp only [DR] at hy
                  have hdl : WrOk H [id] := fun s hs => by
                    simp only [List.mem_singleton] at hs
                    subst hs
                    exact ⟨_, find_some hsub hfd, rfl⟩
                  rcases hy.2 _ _ hk with ⟨hq, h0, hy'⟩ | ⟨b, o', cap, hq, hy', hcap, hsz2⟩
                  · have hl0 : l = [] := List.length_eq_zero_iff.1 h0
                    subst hl0
                    by_cases h0 : m = []
                    · subst h0
                      refine sim_app_none hw hf (dl := [id]) hdl (hexec ?_) rfl
                      rw [hy']
                      exact run_app_room (w' := w) ht' hu hdu hi hs hsz (sLen := 0) (sCap := 0) (by simp) (fun a ha => by cases ha) (fun _ => rfl)
                    · have hpos : 0 < m.length := List.length_pos_iff.2 h0
                      exact fresh [id] [] [] none 0 (by simp [Rows]) hy' (fun w2 _ => run_firstCells_none _ _ _ _ _) (by simpa using hpos) (by simpa using hbd) hdl rfl
                  · rcases (find_ob hw hsub hfd).rows with ⟨hq', _⟩ | ⟨b', o'', cs, e', fz, us, hq', hbk, hfz, hsz3, hrows, hcs⟩
                    · rw [hq] at hq'; cases hq'
                    rw [hq] at hq'; cases hq'
                    by_cases hroom : l.length + m.length ≤ cap
                    · have hnl := hs.rows.length
                      have hul := hrows.length
                      have hm1 : (l.length + m.length) * rs.length ≤ cap * rs.length := Nat.mul_le_mul_right _ hroom
                      rw [Nat.add_mul] at hm1
                      have hbs : bsize w b = cs.size := by simp only [bsize, hbk]
                      rw [hbs] at hsz2
                      have hfit : o' + us.length + news.length ≤ cs.size := by omega
                      have hfit' : o' + l.length * rs.length + news.length ≤ cs.size := by omega
                      have hg : Chg H Q (Q.put nid (some (b, o'))) w (w.setRow b (over cs (o' + us.length) news)) [] nid { del := [id], put := [(nid, .buf rs (l ++ m))] } :=
                        chg_move (cs := cs) hw (find_some hsub hfd) rfl hq (hf.new nid (Nat.le_refl _) (by omega)) hbk (by simp [World.setRow]) (fun k hk => setRow_other w b k _ hk) (setRow_heap w b _ _ _ _ hbk) (over_size hfit)
                      have hst := hg.step hw hf.ob (fun id' ob hl => by
                        obtain ⟨rfl, rfl⟩ := look_one hl
                        refine ObR.mk (b := b) (o := o') (us := us ++ news) (by simp [QM.put]) (setRow_heap w b _ _ _ _ hbk) (by rw [over_size hfit]; exact hfz) ((hrows.append hs.rows).mono (hg.imm hw)) (over_end hcs hfit) ?_
                        rw [over_size hfit, List.length_append, Nat.add_mul]
                        omega)
                      have hst2 := run_storeCells_fz (P := P) b (o' + us.length) e' fz news 0 cs w hbk hfz.1 (by simpa using hfit) (hs.rows.ones)
                      simp only [Nat.add_zero] at hst2
                      have hap := run_app_room (ty := o.type) (w' := w.setRow b (over cs (o' + us.length) news)) ht' hu hdu hi hs hsz (base := some ⟨b, o', none⟩) (sLen := l.length) (sCap := cap) hroom (fun a ha => by
                        cases ha
                        rw [add_none, ← hul]
                        exact hst2) (fun hn => by cases hn)
                      rw [← hy'] at hap
                      refine sim_of (hexec hap) hst ?_
                      simp only [DR]
                      refine ⟨rfl, fun n len hk2 => ?_⟩
                      have hk3 : (H.app { del := [id], put := [(nid, .buf rs (l ++ m))] }).kd nid = some (.buf rs.length (l ++ m).length) := by
                        simp [Hp.kd, Hp.app, look, Ob.kd]
                      rw [hk3] at hk2; cases hk2
                      refine .inr ⟨b, o', cap, by simp [QM.put], by rw [List.length_append], by rw [List.length_append]; exact hroom, ?_⟩
                      have : bsize (w.setRow b (over cs (o' + us.length) news)) b = cs.size := by simp only [bsize, setRow_heap w b _ _ _ _ hbk, over_size hfit]
                      rw [this]; exact hsz2
                    · refine fresh [id] l us _ cap hrows hy' (fun w2 hh => ?_) (by omega) (by simpa using hbd) hdl rfl
                      exact run_firstCells_some w2 rs.length _ _ _ cap us hrows.length (fun j v hj => by
                        rw [add_none]
                        have := cellsAt_of hbk hcs j v hj
                        simp only [World.cell?, hh] at this ⊢
                        exact this)
            · cases h
          · cases h
        · rename_i id lo hi' ev
          split at h
          · rename_i i rs' l hfd
            split at h
            · rename_i _ heq _
              subst heq
              cases h with
              | req hbd h =>
                cases h
                have hk : H.kd id = some (.buf rs.length l.length) := by rw [find_kd hsub hfd]; rfl
                rw [ev] at hy; simp only [DR] at hy
                obtain ⟨g1, g2, g3⟩ := hy.2 _ _ hk
                have hkl : (l.take hi' ++ m ++ l.drop (hi' + m.length)).length = l.length := by simp; omega
                have same : m = [] → (∀ (base : Option Addr), ρ y = .slice base 0 0 → hi' = lo → SubV w Q id rs.length l.length lo hi' (.slice base 0 0) → Sim P H Q Im w ρ o nid (.osub id lo (hi' + m.length), { put := [(id, .buf rs (l.take hi' ++ m ++ l.drop (hi' + m.length)))] })) := by
                  rintro rfl base hy' hlo hsub'
                  have hob : (l.take hi' ++ [] ++ l.drop (hi' + ([] : List (tyL rs)).length)) = l := by simp
                  rw [hob]
                  have hg : Chg H Q Q w w [] nid { del := [], put := [(id, .buf rs l)] } := chg_same hw (find_some hsub hfd) rfl rfl rfl
                  have hst := hg.step hw hf.ob (fun id' ob hl => by
                    obtain ⟨rfl, rfl⟩ := look_one hl
                    rcases find_ob hw hsub hfd with h1 | ⟨b, o', cs, e', fz, a1, a2, a3, a4, a5⟩
                    · exact .inl h1
                    · refine .inr ⟨b, o', cs, e', fz, a1, a2, a3, a4, fun i r hr => ?_⟩
                      obtain ⟨vs, b1, b2⟩ := a5 i r hr
                      exact ⟨vs, CR_mono rs r (hg.imm hw) b1, b2⟩)
                  have hap := run_app_room (ty := o.type) (w' := w) ht' hu hdu hi hs hsz (base := base) (sLen := 0) (sCap := 0) (by simp) (fun a ha => by
                    have : news = [] := List.length_eq_zero_iff.1 (by rw [hs.rows.length]; simp)
                    subst this
                    simp [storeCells]) (fun _ => rfl)
                  rw [← hy'] at hap
                  refine sim_of (hexec hap) hst ?_
                  simp only [DR, List.length_nil, Nat.add_zero]
                  refine ⟨rfl, fun n len hk2 => ?_⟩
                  have hk3 : (H.app { put := [(id, .buf rs l)] }).kd id = some (.buf rs.length l.length) := by
                    simp [Hp.kd, Hp.app, look, Ob.kd]
                  rw [hk3] at hk2; cases hk2
                  exact hsub'
                rcases g3 with ⟨hq, h0, hy'⟩ | ⟨b, o', cap, hq, hcap1, hcap2, hy' | ⟨h5, h6, hy'⟩⟩
                · exact same (List.length_eq_zero_iff.1 (by omega)) none hy' (by omega) ⟨g1, g2, .inl ⟨hq, h0, rfl⟩⟩
                · rcases (find_ob hw hsub hfd).rows with ⟨hq', _⟩ | ⟨b', o'', cs, e', fz, us, hq', hbk, hfz, hsz3, hrows, hcs⟩
                  · rw [hq] at hq'; cases hq'
                  rw [hq] at hq'; cases hq'
                  have hnl := hs.rows.length
                  have hul := hrows.length
                  have hm1 : (hi' + m.length) * rs.length ≤ l.length * rs.length := Nat.mul_le_mul_right _ hbd
                  rw [Nat.add_mul] at hm1
                  have hm2 : lo * rs.length + (hi' - lo) * rs.length = hi' * rs.length := by rw [← Nat.add_mul]; congr 1; omega
                  have hle : hi' * rs.length + news.length ≤ us.length := by omega
                  have hfit : o' + hi' * rs.length + news.length ≤ cs.size := by omega
                  have hg : Chg H Q Q w (w.setRow b (over cs (o' + hi' * rs.length) news)) [] nid { del := [], put := [(id, .buf rs (l.take hi' ++ m ++ l.drop (hi' + m.length)))] } :=
                    chg_in (cs := cs) hw (find_some hsub hfd) rfl (by simp only [Ob.kd, hkl]) hq hbk (by simp [World.setRow]) (fun k hk => setRow_other w b k _ hk) (setRow_heap w b _ _ _ _ hbk) (over_size hfit) (fun i hi => by cases hi) (by simp)
                  have hst := hg.step hw hf.ob (fun id' ob hl => by
                    obtain ⟨rfl, rfl⟩ := look_one hl
                    refine ObR.mk (us := us.take (hi' * rs.length) ++ news ++ us.drop (hi' * rs.length + news.length)) hq (setRow_heap w b _ _ _ _ hbk) (by rw [over_size hfit]; exact hfz) ?_ (over_mid hcs hle (by omega)) (by rw [over_size hfit, hkl]; exact hsz3)
                    have := ((hrows.take hi').append hs.rows).append (hrows.drop (hi' + m.length))
                    rw [Nat.add_mul, ← hnl] at this
                    exact this.mono (hg.imm hw))
                  have hst2 := run_storeCells_fz (P := P) b (o' + hi' * rs.length) e' fz news 0 cs w hbk hfz.1 (by simpa using hfit) (hs.rows.ones)
                  simp only [Nat.add_zero] at hst2
                  have hap := run_app_room (ty := o.type) (w' := w.setRow b (over cs (o' + hi' * rs.length) news)) ht' hu hdu hi hs hsz (base := some ⟨b, o' + lo * rs.length, none⟩) (sLen := hi' - lo) (sCap := cap) (by omega) (fun a ha => by
                    cases ha
                    rw [add_none, show o' + lo * rs.length + (hi' - lo) * rs.length = o' + hi' * rs.length by omega]
                    exact hst2) (fun hn => by cases hn)
                  rw [← hy'] at hap
                  refine sim_of (hexec hap) hst ?_
                  simp only [DR]
                  refine ⟨rfl, fun n len hk2 => ?_⟩
                  have hk3 : (H.app { put := [(id, .buf rs (l.take hi' ++ m ++ l.drop (hi' + m.length)))] }).kd id = some (.buf rs.length l.length) := by
                    simp [Hp.kd, Hp.app, look, Ob.kd]; omega
                  rw [hk3] at hk2; cases hk2
                  refine ⟨by omega, by omega, .inr ⟨b, o', cap, hq, hcap1, ?_, .inl ?_⟩⟩
                  · have : bsize (w.setRow b (over cs (o' + hi' * rs.length) news)) b = bsize w b := by simp only [bsize, setRow_heap w b _ _ _ _ hbk, over_size hfit, hbk]
                    rw [this]; exact hcap2
                  · congr 1; omega
                · exact same (List.length_eq_zero_iff.1 (by omega)) _ hy' h5 ⟨g1, g2, .inr ⟨b, o', cap, hq, hcap1, hcap2, .inr ⟨h5, h6, rfl⟩⟩⟩
            · cases h
          · cases h
        · cases h
    · cases h
  · cases h
end
end Go.Ev
