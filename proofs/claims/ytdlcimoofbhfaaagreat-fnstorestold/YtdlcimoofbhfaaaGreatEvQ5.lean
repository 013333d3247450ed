/- A part of the proof. -/
import Derived.Test.YtdlcimoofbhfaaaGreatEvQ4
set_option linter.all false
set_option linter.constructorNameAsVariable false
set_option linter.unusedVariables false
set_option linter.unusedSimpArgs false
namespace Go.Ev
section
variable {P : Program} {c : Ctx} {H : Hp} {Q : QM} {Im Im' : IM} {w w' : World} {val : Operand → D} {ρ : Operand → Value} {hpE : Heap} {nid : Nat} {o : Oper} {x : D × Dl}
theorem run_call_value {cl : Call} {f : Operand} (ho : o.op = .call cl) (hb : cl.callee = .value f) {g : Nat} {cs : Array Value} (hf : ρ f = .func (.func g) #[] cs) (hg : Callable P g) :
    (execOp ρ o).run P w = .ok (.enter g (cl.args.map ρ ++ cs)) w := by
  obtain ⟨fn, h1, h2, h3⟩ := hg
  have h2' : ¬ fn.name = "runtime.NumGoroutine" := by simpa using h2
  have h3' : ¬ fn.body = none := by intro h; rw [h] at h3; cases h3
  simp [execOp, ho, resolve, hb, hf, Deferred.ofValue, invoke, callFunc, h1, h2', h3']
theorem Post.keeps {d : D} {u : Value} (hw : WR P H Q Im w) (hk : Keeps w w') (hd : DR P w Im H.kd Q d u) : Post P H Q Im w nid (d, {}) u w' := by
  have hg : Chg H Q Q w w' [] nid {} := {
    qt := hk.2.2
    grow := hk.1
    bs := fun id h b o h1 h2 _ => .inr (by simp only [bsize, hk.2.1 b (hw.own id h b o h1 h2).1])
    ch := fun b hb => .inl (hk.2.1 b hb)
    qs := fun _ _ => rfl
    fro := fun s hs => by cases hs
    del := fun s hs => by cases hs
    kd := fun i ob hl => by simp [look] at hl
    own := fun i ob b o hl => by simp [look] at hl
    inj := fun i i' ob ob' b o o' hl => by simp [look] at hl }
  have e : H.app {} = H := Hp.app_nil H
  refine ⟨Q, Im, ?_, ?_, ?_⟩
  · simp only [e]
    have hm : ∀ b, Im b → Im b ∧ w'.heap[b]? = w.heap[b]? := fun b hb => ⟨hb, hk.2.1 b (hw.imlt b hb)⟩
    refine ⟨fun b hb => Nat.lt_of_lt_of_le (hw.imlt b hb) hk.1, fun id h b o h1 h2 => ⟨Nat.lt_of_lt_of_le (hw.own id h b o h1 h2).1 hk.1, (hw.own id h b o h1 h2).2⟩, hw.inj, fun id h h1 => ?_⟩
    have hb2 : ∀ b o, Q id = some (b, o) → w'.heap[b]? = w.heap[b]? := fun b o hq => hk.2.1 b (hw.own id h b o h1 hq).1
    have h2 := hw.ob id h h1
    cases ho : h.ob with
    | box ds =>
      rw [ho] at h2
      obtain ⟨b, us, e, fz, a1, a2, a3, a4⟩ := h2
      refine ⟨b, us, e, fz, a1, by rw [hb2 b 0 a1]; exact a2, a3, DRL_mono hm ds us (fun i _ => ?_) a4⟩
      cases hi : H i with
      | none => exact ⟨.inl (by simp [Hp.kd, hi])⟩
      | some h' => exact ⟨.inr ⟨rfl, rfl, fun b o hq => .inr (by simp only [bsize, hk.2.1 b (hw.own i h' b o hi hq).1])⟩⟩
    | buf rs l =>
      rw [ho] at h2
      rcases h2 with h2 | ⟨b, o, cs, e, fz, a1, a2, a3, a4, a5⟩
      · exact .inl h2
      · refine .inr ⟨b, o, cs, e, fz, a1, by rw [hb2 b o a1]; exact a2, a3, a4, fun i r hr => ?_⟩
        obtain ⟨vs, b1, b2⟩ := a5 i r hr
        exact ⟨vs, CR_mono rs r hm b1, b2⟩
  · simp only [e]
    exact {
      qt := hk.2.2
      grow := hk.1
      imm := fun b hb => ⟨hb, hk.2.1 b (hw.imlt b hb)⟩
      imr := fun b hb => .inl hb
      old := fun b hb _ => hk.2.1 b hb
      own := fun id h b o h1 h2 => .inr ⟨id, h, o, h1, h2⟩
      refs := fun id _ => by
        cases hi : H id with
        | none => exact ⟨.inl (by simp [Hp.kd, hi])⟩
        | some h' => exact ⟨.inr ⟨rfl, rfl, fun b o hq => .inr (by simp only [bsize, hk.2.1 b (hw.own id h' b o hi hq).1])⟩⟩
      out := fun id _ => ⟨rfl, rfl⟩
      rof := fun id h hi => by cases hi
      newr := fun id hi => by cases hi }
  · simp only [e]
    refine DR_mono (fun b hb => ⟨hb, hk.2.1 b (hw.imlt b hb)⟩) d u (fun id _ => ?_) hd
    cases hi : H id with
    | none => exact ⟨.inl (by simp [Hp.kd, hi])⟩
    | some h' => exact ⟨.inr ⟨rfl, rfl, fun b o hq => .inr (by simp only [bsize, hk.2.1 b (hw.own id h' b o hi hq).1])⟩⟩
theorem nodup_rev : ∀ {l : List Nat}, l.Nodup → l.reverse.Nodup
  | [], _ => by simp
  | a :: r, h => by
    obtain ⟨h1, h2⟩ := List.nodup_cons.1 h
    rw [List.reverse_cons]
    refine List.nodup_append.2 ⟨nodup_rev h2, by simp, fun x hx y hy hxy => ?_⟩
    simp only [List.mem_singleton] at hy
    subst hxy; subst hy
    exact h1 (by simpa using hx)
theorem ims_lt (hw : WR P H Q Im w) {sn : List Nat} (hs : ∀ i ∈ sn, ∃ h, H i = some h) : ∀ b, ImS Q Im sn b → b < w.heap.size := by
  intro b hb
  rcases hb with hb | ⟨id, h1, o, h2⟩
  · exact hw.imlt b hb
  · obtain ⟨h, h3⟩ := hs id h1
    exact (hw.own id h b o h3 h2).1
end
theorem bufOf_find {hp : Heap} {id : Nat} {rs : List Sh} {l : List (tyL rs)} (h : bufOf hp id rs = some l) : ∃ h, hp.find id = some h := by
  obtain ⟨i, r, h⟩ := bufOf_eq h
  exact ⟨_, h⟩
mutual
theorem toR_in {hp : Heap} : ∀ (sh : Sh) (d : D) (x : sh.ty) (sn : List Nat), toR hp sh d = some (x, sn) → ∀ i ∈ sn, ∃ h, hp.find i = some h
  | .b, d, x, sn, h => by
    cases d <;> simp only [toR] at h <;> first | (cases h; done) | skip
    · obtain ⟨_, _, rfl⟩ := toR_typed (hp := hp) (sh := .b) h; intro i hi; cases hi
    · cases h; intro i hi; cases hi
  | .i k, d, x, sn, h => by
    cases d <;> simp only [toR] at h <;> first | (cases h; done) | skip
    obtain ⟨_, _, rfl⟩ := toR_typed (hp := hp) (sh := .i k) h; intro i hi; cases hi
  | .s, d, x, sn, h => by
    cases d <;> simp only [toR] at h <;> first | (cases h; done) | skip
    obtain ⟨_, _, rfl⟩ := toR_typed (hp := hp) (sh := .s) h; intro i hi; cases hi
  | .e, d, x, sn, h => by
    cases d <;> simp only [toR] at h <;> first | (cases h; done) | skip
    · obtain ⟨_, _, rfl⟩ := toR_typed (hp := hp) (sh := .e) h; intro i hi; cases hi
    · cases h; intro i hi; cases hi
  | .fn ag ps, d, x, sn, h => by
    cases d <;> simp only [toR] at h <;> first | (cases h; done) | skip
    obtain ⟨_, _, rfl⟩ := toR_typed (hp := hp) (sh := .fn ag ps) h; intro i hi; cases hi
  | .fn2 ps, d, x, sn, h => by
    cases d <;> simp only [toR] at h <;> first | (cases h; done) | skip
    obtain ⟨_, _, rfl⟩ := toR_typed (hp := hp) (sh := .fn2 ps) h; intro i hi; cases hi
  | .sl rs, d, x, sn, h => by
    cases d <;> simp only [toR] at h <;> first | (cases h; done) | skip
    · obtain ⟨_, _, rfl⟩ := toR_typed (hp := hp) (sh := .sl rs) h; intro i hi; cases hi
    · cases h; intro i hi; cases hi
    · simp only [Option.map_eq_some_iff, Prod.mk.injEq] at h
      obtain ⟨l, h1, rfl, rfl⟩ := h
      intro i hi
      simp only [List.mem_singleton] at hi
      subst hi
      exact bufOf_find h1
    · simp only [Option.map_eq_some_iff, Prod.mk.injEq] at h
      obtain ⟨l, h1, rfl, rfl⟩ := h
      intro i hi
      simp only [List.mem_singleton] at hi
      subst hi
      exact bufOf_find h1
  | .rf cs, d, x, sn, h => by
    cases d <;> simp only [toR] at h <;> first | (cases h; done) | skip
    · obtain ⟨_, _, rfl⟩ := toR_typed (hp := hp) (sh := .rf cs) h; intro i hi; cases hi
    · rename_i id off
      split at h
      · split at h
        · rename_i i r ds hf
          simp only [Option.map_eq_some_iff, Prod.mk.injEq] at h
          obtain ⟨⟨y, ids⟩, h1, rfl, rfl⟩ := h
          intro k hk
          rcases List.mem_cons.1 hk with rfl | hk
          · exact ⟨_, hf⟩
          · exact toRL_in cs ds y ids h1 k hk
        · cases h
      · cases h
theorem toRL_in {hp : Heap} : ∀ (rs : List Sh) (ds : List D) (x : tyL rs) (sn : List Nat), toRL hp rs ds = some (x, sn) → ∀ i ∈ sn, ∃ h, hp.find i = some h
  | [], [], x, sn, h => by simp only [toRL] at h; cases h; intro i hi; cases hi
  | [a], [d], x, sn, h => by
    simp only [toRL] at h
    exact toR_in a d x sn h
  | a :: c :: r, d :: ds, x, sn, h => by
    simp only [toRL] at h
    split at h
    · rename_i y i h1
      split at h
      · rename_i z j h2
        cases h
        intro k hk
        rcases List.mem_append.1 hk with hk | hk
        · exact toR_in a d y i h1 k hk
        · exact toRL_in (c :: r) ds z j h2 k hk
      · cases h
    · cases h
  | [], _ :: _, x, sn, h => by simp [toRL] at h
  | [a], [], x, sn, h => by simp [toRL] at h
  | [a], _ :: _ :: _, x, sn, h => by simp [toRL] at h
  | a :: c :: r, [], x, sn, h => by simp [toRL] at h
end
theorem lfIn_in {hp : Heap} : ∀ {l : Lf} {d : D} {dl dl' sn : List Nat} {x : l.sh.ty}, lfIn hp l d dl = some (x, dl', sn) → ∀ i ∈ sn, ∃ h, hp.find i = some h
  | .r sh, d, dl, dl', sn, x, h => by
    simp only [lfIn, Option.map_eq_some_iff, Prod.mk.injEq] at h
    obtain ⟨⟨y, i⟩, h1, rfl, rfl, rfl⟩ := h
    exact toR_in sh d y i h1
  | .o rs, d, dl, dl', sn, x, h => by
    cases d <;> simp only [lfIn] at h <;> first | (cases h; done) | skip
    · cases h; intro i hi; cases hi
    · split at h
      · simp only [Option.map_eq_some_iff, Prod.mk.injEq] at h
        obtain ⟨l, h1, rfl, rfl, rfl⟩ := h
        intro i hi; cases hi
      · cases h
    · split at h
      · simp only [Option.map_eq_some_iff, Prod.mk.injEq] at h
        obtain ⟨l, h1, rfl, rfl, rfl⟩ := h
        intro i hi; cases hi
      · cases h
theorem lfsIn_in {hp : Heap} : ∀ {ls : List Lf} {ds : List D} {dl dl' sn : List Nat} {x : tyL (lfShs ls)}, lfsIn hp ls ds dl = some (x, dl', sn) → ∀ i ∈ sn, ∃ h, hp.find i = some h
  | [], [], dl, dl', sn, x, h => by simp only [lfsIn] at h; cases h; intro i hi; cases hi
  | [a], [d], dl, dl', sn, x, h => by simp only [lfsIn] at h; exact lfIn_in h
  | a :: c :: r, d :: ds, dl, dl', sn, x, h => by
    simp only [lfsIn] at h
    split at h
    · rename_i y dl1 i h1
      split at h
      · rename_i z dl2 j h2
        cases h
        intro k hk
        rcases List.mem_append.1 hk with hk | hk
        · exact lfIn_in h1 k hk
        · exact lfsIn_in h2 k hk
      · cases h
    · cases h
  | [], _ :: _, dl, dl', sn, x, h => by simp [lfsIn] at h
  | [a], [], dl, dl', sn, x, h => by simp [lfsIn] at h
  | [a], _ :: _ :: _, dl, dl', sn, x, h => by simp [lfsIn] at h
  | a :: c :: r, [], dl, dl', sn, x, h => by simp [lfsIn] at h
theorem parIn_in {hp : Heap} : ∀ {p : Par} {d : D} {dl dl' sn : List Nat} {x : p.ty}, parIn hp p d dl = some (x, dl', sn) → ∀ i ∈ sn, ∃ h, hp.find i = some h
  | .one l, d, dl, dl', sn, x, h => by simp only [parIn] at h; exact lfIn_in h
  | .agg ls, d, dl, dl', sn, x, h => by
    cases d <;> simp only [parIn] at h <;> first | (cases h; done) | skip
    exact lfsIn_in h
  | .box ls, d, dl, dl', sn, x, h => by
    cases d <;> simp only [parIn] at h <;> first | (cases h; done) | skip
    split at h
    · split at h
      · exact lfsIn_in h
      · cases h
    · cases h
theorem parsIn_in {hp : Heap} : ∀ {ps : List Par} {ds : List D} {dl dl' sn : List Nat} {x : parTy ps}, parsIn hp ps ds dl = some (x, dl', sn) → ∀ i ∈ sn, ∃ h, hp.find i = some h
  | [], [], dl, dl', sn, x, h => by simp only [parsIn] at h; cases h; intro i hi; cases hi
  | [a], [d], dl, dl', sn, x, h => by simp only [parsIn] at h; exact parIn_in h
  | a :: c :: r, d :: ds, dl, dl', sn, x, h => by
    simp only [parsIn] at h
    split at h
    · rename_i y dl1 i h1
      split at h
      · rename_i z dl2 j h2
        cases h
        intro k hk
        rcases List.mem_append.1 hk with hk | hk
        · exact parIn_in h1 k hk
        · exact parsIn_in h2 k hk
      · cases h
    · cases h
  | [], _ :: _, dl, dl', sn, x, h => by simp [parsIn] at h
  | [a], [], dl, dl', sn, x, h => by simp [parsIn] at h
  | [a], _ :: _ :: _, dl, dl', sn, x, h => by simp [parsIn] at h
  | a :: c :: r, [], dl, dl', sn, x, h => by simp [parsIn] at h
theorem snC_in {c : Ctx} {hp : Heap} {k g : Nat} {caps : List D} : ∀ i ∈ snC c hp k g caps, ∃ h, hp.find i = some h := by
  intro i hi
  unfold snC at hi
  split at hi
  · split at hi
    · rename_i h1; exact parsIn_in h1 i hi
    · cases hi
  · cases hi
theorem cloIdsL_in {c : Ctx} {hp : Heap} : ∀ (ps : List Par) (ds : List D), ∀ i ∈ cloIdsL c hp ps ds, ∃ h, hp.find i = some h
  | [], ds, i, hi => by cases ds <;> simp [cloIdsL] at hi
  | p :: r, [], i, hi => by simp [cloIdsL] at hi
  | p :: r, d :: ds, i, hi => by
    simp only [cloIdsL] at hi
    rcases List.mem_append.1 hi with hi | hi
    · unfold cloIds at hi
      split at hi
      · exact snC_in i hi
      · exact snC_in i hi
      · cases hi
    · exact cloIdsL_in r ds i hi
section
variable {P : Program} {c : Ctx} {H : Hp} {Q : QM} {Im Im' : IM} {w w' : World} {val : Operand → D} {ρ : Operand → Value} {hpE : Heap} {nid : Nat} {o : Oper} {x : D × Dl}
theorem sim_call (hc : CtxOk P c) (hw : WR P H Q Im w) (hsub : ∀ id h, hpE.find id = some h → H id = some h) (hf : Fr H val nid) {cl : Call} {f : Operand} (ho : o.op = .call cl) (hb : cl.callee = .value f) {g : Nat} {cs : List Value}
    (hfv : ρ f = .func (.func g) #[] cs.toArray) {ds : List D} (hds : DRL P w Im H.kd Q ds (cl.args.toList.map ρ ++ cs)) (h : Reach c.okp (callEv c g ds hpE nid) x) : Sim P H Q Im w ρ o nid x := by
  unfold callEv at h
  obtain ⟨S, hS, h⟩ := reach_ofO h
  obtain ⟨⟨X, dl, sn0⟩, hX, h⟩ := reach_ofO h
  dsimp only at h
  generalize hfzd : (if S.outs.any Par.mem = true then sn0 ++ cloIdsL c hpE S.ins ds else []) = fz at h
  split at h
  · rename_i hcond
    simp only [Bool.and_eq_true, decide_eq_true_eq] at hcond
    obtain ⟨⟨hap, hfz⟩, hlen⟩ := hcond
    cases h with
    | call hok h =>
      rename_i Y
      dsimp only at h
      split at h
      · rename_i rs ob n' hout
        split at h
        · rename_i hn
          cases h
          have hds' := cloDs_sound hc hw.ob hsub (ps := S.ins) hds
          have hob' : ∀ id h, H id = some h → ObR P w (ImS Q Im (cloIdsL c hpE S.ins ds)) H.kd Q id h.ob := by
            intro id h h1
            have hm : ∀ b, Im b → ImS Q Im (cloIdsL c hpE S.ins ds) b ∧ w.heap[b]? = w.heap[b]? := fun b hb => ⟨.inl hb, rfl⟩
            have h2 := hw.ob id h h1
            cases ho : h.ob with
            | box ds' =>
              rw [ho] at h2
              obtain ⟨b, us, e, fz, a1, a2, a3, a4⟩ := h2
              exact ⟨b, us, e, fz, a1, a2, a3, DRL_mono hm ds' us (fun i _ => ⟨.inr ⟨rfl, rfl, fun b o _ => .inr rfl⟩⟩) a4⟩
            | buf rs l =>
              rw [ho] at h2
              rcases h2 with h2 | ⟨b, o, cs, e, fz, a1, a2, a3, a4, a5⟩
              · exact .inl h2
              · refine .inr ⟨b, o, cs, e, fz, a1, a2, a3, a4, fun i r hr => ?_⟩
                obtain ⟨vs, b1, b2⟩ := a5 i r hr
                exact ⟨vs, CR_mono rs r hm b1, b2⟩
          obtain ⟨bs, bx, hpr, htook, hbx, hids, hidn⟩ := parsIn_sound hob' hsub hX hds'
          rw [boxIds_clo] at hbx hids hidn
          have himeq : ImS Q (ImS Q Im (cloIdsL c hpE S.ins ds)) sn0 = ImS Q Im (sn0 ++ cloIdsL c hpE S.ins ds) := by
            funext b
            apply propext
            constructor
            · rintro ((hb | ⟨i, h1, h2⟩) | ⟨i, h1, h2⟩)
              · exact .inl hb
              · exact .inr ⟨i, by simp [h1], h2⟩
              · exact .inr ⟨i, by simp [h1], h2⟩
            · rintro (hb | ⟨i, h1, h2⟩)
              · exact .inl (.inl hb)
              · rcases List.mem_append.1 h1 with h1 | h1
                · exact .inr ⟨i, h1, h2⟩
                · exact .inl (.inr ⟨i, h1, h2⟩)
          rw [himeq] at hpr
          have hsnin : ∀ i ∈ sn0 ++ cloIdsL c hpE S.ins ds, ∃ h, H i = some h := by
            intro i hi
            rcases List.mem_append.1 hi with hi | hi
            · obtain ⟨h, h1⟩ := parsIn_in hX i hi; exact ⟨h, hsub _ _ h1⟩
            · obtain ⟨h, h1⟩ := cloIdsL_in S.ins ds i hi; exact ⟨h, hsub _ _ h1⟩
          obtain ⟨n, hn1, hn2, hn3⟩ := htook.ex
          have hdln : dl = n := by simpa using hn1
          subst hdln
          have hnd : dl.Nodup := htook.nd List.nodup_nil
          have hbsn : bs.Nodup := by
            rw [hn2]
            exact blk_nodup hw (fun i hi => by
              obtain ⟨h, h1, _⟩ := hn3 i (by simpa using hi)
              exact ⟨h, h1⟩) (nodup_rev hnd)
          have hap' : ∀ i ∈ sn0 ++ cloIdsL c hpE S.ins ds, i ∉ dl := by
            intro i hi
            have := List.all_eq_true.1 hap i hi
            simpa using this
          have hbsim : ∀ b ∈ bs, b < w.heap.size ∧ ¬ ImS Q Im (sn0 ++ cloIdsL c hpE S.ins ds) b := by
            intro b hb
            rw [hn2] at hb
            obtain ⟨id, h1, o', h2⟩ := blk_mem hb
            have h1 : id ∈ dl := by simpa using h1
            obtain ⟨h, h3, _⟩ := hn3 id h1
            refine ⟨(hw.own id h b o' h3 h2).1, ?_⟩
            rintro (hb2 | ⟨i, h4, o2, h5⟩)
            · exact (hw.own id h b o' h3 h2).2 hb2
            · obtain ⟨h', h6⟩ := hsnin i h4
              have := hw.inj i id _ _ _ _ _ h6 h3 h5 h2
              subst this
              exact hap' _ h4 h1
          have hcall := hc.okp _ _ _ _ hok w _ _ bs bx (ims_lt hw hsnin) hpr hbsn hbsim
          unfold Sim OpDoes
          rw [run_call_value ho hb hfv (hc.fn g S hS)]
          have e9 : (cl.args.toList.map ρ ++ cs).toArray = cl.args.map ρ ++ cs.toArray := by
            apply Array.ext'; simp
          rw [e9] at hcall
          refine hcall.mono fun e w' hh => ?_
          obtain ⟨v, us, bs', rfl, ha⟩ := hh
          refine ⟨v, rfl, ?_⟩
          refine call_post (S := S) (y := Y) (sn := sn0 ++ cloIdsL c hpE S.ins ds) (bs := bs) (ids := boxIds S.ins ds) hw hf hn3 hnd hn2 hfzd.symm (wr_ok hsub hfz) hap' (fun i hi => ?_) hidn hbx ha hout hn
          refine ⟨(hids i hi).1, ?_⟩
          have hbb := boxIds_box hX i (by rw [boxIds_clo]; exact hi)
          obtain ⟨i', cs', hfd⟩ := hbb
          exact ⟨_, hsub _ _ hfd, rfl⟩
        · cases h
      · cases h
  · cases h
theorem sim_callv (hc : CtxOk P c) (hw : WR P H Q Im w) (hv : ∀ x, DR P w Im H.kd Q (val x) (ρ x)) (hsub : ∀ id h, hpE.find id = some h → H id = some h) {cl : Call} {f : Operand} (ho : o.op = .call cl) (hb : cl.callee = .value f) {sh : Sh} {p : sh.ty}
    (hf : val f = .v sh p) (h : Reach c.okp (callvEv sh p (cl.args.toList.map val) hpE) x) : Sim P H Q Im w ρ o nid x := by
  have hfv := hv f
  rw [hf] at hfv
  simp only [DR] at hfv
  have hargs := mapD hv cl.args.toList
  have finish : ∀ {g : Nat} {caps : Array Value} {t : Bool} {us : List Value}, ρ f = .func (.func g) #[] caps → Callable P g → cl.args.toList.map ρ = us → (Calls P g (us.toArray ++ caps) w fun e w'' => e = .returned (.bool t) ∧ Keeps w w'') → x = (.v .b t, {}) → Sim P H Q Im w ρ o nid x := by
    intro g caps t us h1 h2 h3 h4 h5
    unfold Sim OpDoes
    rw [run_call_value ho hb h1 h2]
    have : cl.args.map ρ = us.toArray := by rw [← h3]; apply Array.ext'; simp
    rw [this]
    refine h4.mono fun e w' hh => ⟨_, hh.1, ?_⟩
    rw [h5]
    exact Post.keeps hw hh.2 (by simp only [DR, VR])
  unfold callvEv at h
  split at h
  · rename_i ag ps p' d hds
    rw [hds] at hargs
    simp only [DRL] at hargs
    obtain ⟨u, us', hmap, hdu, hus⟩ := hargs
    subst hus
    simp only [VR] at hfv
    obtain ⟨g, caps, hg1, hg2, hg3⟩ := hfv
    split at h
    · rename_i cs p2
      obtain ⟨⟨y, sn⟩, hy, h⟩ := reach_ofO h
      cases h with
      | callv hp h =>
        rename_i t
        simp only [DR] at hdu
        obtain ⟨vs, rfl, hvs⟩ := hdu
        have hcr := toRL_sound hw.ob hsub ps cs y sn vs hy hvs
        exact finish hg1 hg2 hmap (hg3 w (ImS Q Im sn) (fun b hb => ⟨.inl hb, rfl⟩) (ims_lt hw fun i hi => by
          obtain ⟨h, h1⟩ := toRL_in ps cs y sn hy i hi; exact ⟨h, hsub _ _ h1⟩) y t vs _ hp hcr rfl) (reach_just h)
    · obtain ⟨⟨y, sn⟩, hy, h⟩ := reach_ofO h
      cases h with
      | callv hp h =>
        rename_i t
        have hcr := toRL_sound hw.ob hsub ps [d] y sn [u] hy (by simp only [DRL]; exact ⟨u, [], rfl, hdu, rfl⟩)
        exact finish hg1 hg2 hmap (hg3 w (ImS Q Im sn) (fun b hb => ⟨.inl hb, rfl⟩) (ims_lt hw fun i hi => by
          obtain ⟨h, h1⟩ := toRL_in ps [d] y sn hy i hi; exact ⟨h, hsub _ _ h1⟩) y t [u] u hp hcr rfl) (reach_just h)
    · cases h
  · rename_i ps p' d e hds
    rw [hds] at hargs
    simp only [DRL, DR] at hargs
    obtain ⟨u, us', hmap, ⟨vs, rfl, hvs⟩, u2, us2, rfl, ⟨vs2, rfl, hvs2⟩, rfl⟩ := hargs
    simp only [VR] at hfv
    obtain ⟨g, caps, hg1, hg2, hg3⟩ := hfv
    obtain ⟨⟨y, sn⟩, hy, h⟩ := reach_ofO h
    obtain ⟨⟨z, sm⟩, hz, h⟩ := reach_ofO h
    cases h with
    | callv hp h =>
      rename_i t
      have hcr := toRL_sound hw.ob hsub ps d y sn vs hy hvs
      have hcr2 := toRL_sound hw.ob hsub ps e z sm vs2 hz hvs2
      exact finish hg1 hg2 hmap (hg3 w (ImS Q Im (sn ++ sm)) (fun b hb => ⟨.inl hb, rfl⟩) (ims_lt hw fun i hi => by
          rcases List.mem_append.1 hi with hi | hi
          · obtain ⟨h, h1⟩ := toRL_in ps d y sn hy i hi; exact ⟨h, hsub _ _ h1⟩
          · obtain ⟨h, h1⟩ := toRL_in ps e z sm hz i hi; exact ⟨h, hsub _ _ h1⟩) y z t vs vs2 hp
        (CR_mono ps y (ImS_sub (by intro k hk; simp [hk]) w) hcr) (CR_mono ps z (ImS_sub (by intro k hk; simp [hk]) w) hcr2)) (reach_just h)
  · cases h
end
end Go.Ev
