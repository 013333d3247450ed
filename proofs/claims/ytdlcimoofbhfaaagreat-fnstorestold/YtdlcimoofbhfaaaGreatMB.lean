/- The plain law, second part: flags, expunging, copying, moving, draws, the law. -/
import Derived.Test.YtdlcimoofbhfaaaGreatMA
set_option linter.all false
namespace Go.M
open Go.Ev Go.G
def addB (b : Box) (flags : Int) (text : List UInt8) : Box := (b.1, b.2.1, b.2.2.1 + 1, b.2.2.2.1 + 1, b.2.2.2.2.1 ++ [(b.2.2.1, flags, b.2.2.2.1 + 1, text)], b.2.2.2.2.2.1, b.2.2.2.2.2.2)
open Classical in
noncomputable def addMail (b : Box) (flags : Int) (text : List UInt8) : Box × Int := if BoxOK b ∧ BoxOK (addB b flags text) then (addB b flags text, b.2.2.1) else (b, 0)
theorem addB_small {b : Box} (h : BoxOK b) {flags : Int} {text : List UInt8} (ht : text.length < 1073741824) : BoxSmall (addB b flags text) := by
  have hs := h.small
  have := h.2.2.2.2.2.1
  refine ⟨hs.name, by unfold addB; simp; omega, hs.tombs, fun m hm => ?_⟩
  unfold addB at hm
  rcases List.mem_append.1 hm with k | k
  · exact hs.text m k
  · simp at k; subst k; exact ht
theorem addB_w {b : Box} (h : BoxOK b) (flags : Int) (text : List UInt8) : ((b.1, b.2.1, (w64 (b.2.2.1 + (1 : Int))), (w64 (b.2.2.2.1 + (1 : Int))), (b.2.2.2.2.1 ++ [(b.2.2.1, flags, (w64 (b.2.2.2.1 + (1 : Int))), text)]), b.2.2.2.2.2.1, b.2.2.2.2.2.2) : Box) = addB b flags text := by
  obtain ⟨_, _, h1, h2, _⟩ := h
  rw [w64_id (by omega) (by omega), w64_id (by omega) (by omega)]; rfl
theorem specAdd_eq {b : Box} (hs : BoxSmall b) (flags : Int) {text : List UInt8} (ht : text.length < 1073741824) : spec_AddMail b flags text = some (addMail b flags text) := by
  have hm := hs.mails
  unfold spec_AddMail addMail
  rw [l08Copy_eq hs, specBoxOk_eq hs]
  simp only [Option.bind_some]
  by_cases h : BoxOK b
  · rw [nite_tr _ _ h, reqO_pos (by simp [bound]; omega), addB_w h, specBoxOk_eq (addB_small h ht)]
    simp only [Option.bind_some]
    by_cases k : BoxOK (addB b flags text)
    · rw [nite_tr _ _ k, if_pos ⟨h, k⟩]
    · rw [nite_ntr _ _ k, if_neg fun e => k e.2]
  · rw [nite_ntr _ _ h, if_neg fun e => h e.1]
theorem implAdd_eq {b : Box} (hs : BoxSmall b) (flags : Int) {text : List UInt8} (ht : text.length < 1073741824) : impl_AddMail b flags text = some (addMail b flags text) := by
  have hm := hs.mails
  unfold impl_AddMail addMail
  rw [copyBox_eq hs, implBoxOk_eq hs]
  simp only [Option.bind_some]
  rw [reqO_pos (by simp [bound]; omega)]
  by_cases h : BoxOK b
  · rw [nite_tr _ _ h, addB_w h, implBoxOk_eq (addB_small h ht)]
    simp only [Option.bind_some]
    by_cases k : BoxOK (addB b flags text)
    · rw [nite_tr _ _ k, if_pos ⟨h, k⟩]
    · rw [nite_ntr _ _ k, if_neg fun e => k e.2]
  · rw [nite_ntr _ _ h, if_neg fun e => h e.1]
def bitOf (a b m acc : Int) : Int := if (a.tdiv m).tmod 2 = 1 ∧ (b.tdiv m).tmod 2 = 1 then acc + m else acc
def and5 (a b : Int) : Int := bitOf a b 16 (bitOf a b 8 (bitOf a b 4 (bitOf a b 2 (bitOf a b 1 0))))
def flagsChk : Bool := (List.range 32).all fun a => (List.range 32).all fun b =>
  decide (and5 a b = andI .i64 a b) && decide ((a : Int) + b - and5 a b = orI .i64 a b) && decide ((a : Int) - and5 a b = andNotI .i64 a b) && decide (0 ≤ andNotI .i64 a b ∧ andNotI .i64 a b ≤ 31) && decide (0 ≤ orI .i64 a b ∧ orI .i64 a b ≤ 31) && decide (0 ≤ andI .i64 a b ∧ andI .i64 a b ≤ 31)
theorem flagsChk_yes : flagsChk = true := by decide +kernel
theorem flags_tab {a b : Int} (ha : FlagsOK a) (hb : FlagsOK b) : and5 a b = andI .i64 a b ∧ a + b - and5 a b = orI .i64 a b ∧ a - and5 a b = andNotI .i64 a b ∧ (0 ≤ andNotI .i64 a b ∧ andNotI .i64 a b ≤ 31) ∧ (0 ≤ orI .i64 a b ∧ orI .i64 a b ≤ 31) ∧ (0 ≤ andI .i64 a b ∧ andI .i64 a b ≤ 31) := by
  obtain ⟨x, rfl⟩ := Int.eq_ofNat_of_zero_le ha.1
  obtain ⟨y, rfl⟩ := Int.eq_ofNat_of_zero_le hb.1
  have h := flagsChk_yes
  unfold flagsChk at h
  rw [List.all_eq_true] at h
  have h := h x (List.mem_range.2 (by have := ha.2; omega))
  rw [List.all_eq_true] at h
  have h := h y (List.mem_range.2 (by have := hb.2; omega))
  simp only [Bool.and_eq_true, decide_eq_true_eq] at h
  exact ⟨h.1.1.1.1.1, h.1.1.1.1.2, h.1.1.1.2, h.1.1.2, h.1.2, h.2⟩
theorem tdiv_small {a m : Int} (ha : FlagsOK a) (hm : 1 ≤ m) : 0 ≤ a.tdiv m ∧ a.tdiv m ≤ 31 := by
  have h1 : 0 ≤ a.tdiv m := Int.tdiv_nonneg ha.1 (by omega)
  have h2 : a.tdiv m ≤ a := by
    rw [Int.tdiv_eq_ediv_of_nonneg ha.1]; exact Int.ediv_le_self _ ha.1
  exact ⟨h1, by have := ha.2; omega⟩
theorem and_step {a b : Int} (ha : FlagsOK a) (hb : FlagsOK b) {m acc : Int} (hm : 1 ≤ m) (hm' : m ≤ 16) (hacc : 0 ≤ acc ∧ acc ≤ 1000) {m2 : Int} (h2m : m2 = 2 * m) : spec_l06And_L1 a b (acc, m) = spec_l06And_L1 a b (bitOf a b m acc, m2) := by
  subst h2m
  have h1 := tdiv_small ha hm
  have h2 := tdiv_small hb hm
  conv => lhs; rw [spec_l06And_L1_eq]; unfold spec_l06And_L1_B
  simp only [w64_id (x := a.tdiv m) (by omega) (by omega), w64_id (x := b.tdiv m) (by omega) (by omega), w64_id (x := 2 * m) (by omega) (by omega), w64_id (x := acc + m) (by omega) (by omega)]
  rw [decide_eq_true hm', if_pos rfl, reqO_pos (by omega), reqO_pos (by omega)]
  unfold bitOf
  by_cases c1 : (a.tdiv m).tmod 2 = 1
  · rw [decide_eq_true c1, if_pos rfl, reqO_pos (by omega), reqO_pos (by omega)]
    by_cases c2 : (b.tdiv m).tmod 2 = 1
    · rw [decide_eq_true c2, if_pos rfl, if_pos ⟨c1, c2⟩]
    · rw [decide_eq_false c2, if_neg (by simp), if_neg fun h => c2 h.2]
  · rw [decide_eq_false c1, if_neg (by simp), if_neg fun h => c1 h.1]
theorem bitOf_le {a b m acc : Int} (hm : 0 ≤ m) (h : 0 ≤ acc) : 0 ≤ bitOf a b m acc ∧ bitOf a b m acc ≤ acc + m := by unfold bitOf; split <;> omega
theorem l06And_eq {a b : Int} (ha : FlagsOK a) (hb : FlagsOK b) : spec_l06And a b = some (andI .i64 a b) := by
  unfold spec_l06And
  have k1 := bitOf_le (a := a) (b := b) (m := 1) (acc := 0) (by omega) (by omega)
  have k2 := bitOf_le (a := a) (b := b) (m := 2) (acc := bitOf a b 1 0) (by omega) (by omega)
  have k3 := bitOf_le (a := a) (b := b) (m := 4) (acc := bitOf a b 2 (bitOf a b 1 0)) (by omega) (by omega)
  have k4 := bitOf_le (a := a) (b := b) (m := 8) (acc := bitOf a b 4 (bitOf a b 2 (bitOf a b 1 0))) (by omega) (by omega)
  rw [and_step ha hb (m2 := 2) (by omega) (by omega) (by omega) rfl, and_step ha hb (m2 := 4) (by omega) (by omega) (by omega) rfl, and_step ha hb (m2 := 8) (by omega) (by omega) (by omega) rfl, and_step ha hb (m2 := 16) (by omega) (by omega) (by omega) rfl, and_step ha hb (m2 := 32) (by omega) (by omega) (by omega) rfl, spec_l06And_L1_eq]
  unfold spec_l06And_L1_B
  rw [if_neg (by show ¬ decide ((32 : Int) ≤ 16) = true; decide), ← (flags_tab ha hb).1]; rfl
open Classical in
noncomputable def flagsAfter (old how bits : Int) : Int :=
  if FlagsOK old ∧ FlagsOK bits then (if how = 1 then bits else if how = 2 then orI .i64 old bits else if how = 3 then andNotI .i64 old bits else old) else old
theorem implAfter_eq (old how bits : Int) : impl_FlagsAfter old how bits = some (flagsAfter old how bits) := by
  unfold impl_FlagsAfter flagsAfter
  rw [implFlags_eq, implFlags_eq]
  simp only [Option.bind_some]
  by_cases h1 : FlagsOK old
  · rw [nite_tr _ _ h1]
    by_cases h2 : FlagsOK bits
    · rw [nite_tr _ _ h2, if_pos (show FlagsOK old ∧ FlagsOK bits from ⟨h1, h2⟩)]
      by_cases k1 : how = 1
      · simp [k1]
      · by_cases k2 : how = 2
        · simp [k2]
        · by_cases k3 : how = 3
          · simp [k3]
          · simp [k1, k2, k3]
    · rw [nite_ntr _ _ h2, if_neg (show ¬ (FlagsOK old ∧ FlagsOK bits) from fun h => h2 h.2)]
  · rw [nite_ntr _ _ h1, if_neg (show ¬ (FlagsOK old ∧ FlagsOK bits) from fun h => h1 h.1)]
theorem specAfter_eq (old how bits : Int) : spec_FlagsAfter old how bits = some (flagsAfter old how bits) := by
  unfold spec_FlagsAfter flagsAfter
  rw [specFlags_eq, specFlags_eq]
  simp only [Option.bind_some]
  by_cases h1 : FlagsOK old
  · rw [nite_tr _ _ h1]
    by_cases h2 : FlagsOK bits
    · obtain ⟨t1, t2, t3, t4, t5, t6⟩ := flags_tab h1 h2
      have hold := h1.1
      have hold' := h1.2
      have hb := h2.1
      have hb' := h2.2
      rw [nite_tr _ _ h2, if_pos (show FlagsOK old ∧ FlagsOK bits from ⟨h1, h2⟩), l06And_eq h1 h2, ← t1] 
      rw [← t1] at t6
      simp only [Option.bind_some, w64_id (x := old + bits) (by omega) (by omega), t2, t3, w64_id (x := orI .i64 old bits) (by omega) (by omega), w64_id (x := andNotI .i64 old bits) (by omega) (by omega)]
      by_cases k1 : how = 1
      · simp [k1]
      · by_cases k2 : how = 2
        · simp [k2]
        · by_cases k3 : how = 3
          · simp [k3]
          · simp [k1, k2, k3]
    · rw [nite_ntr _ _ h2, if_neg (show ¬ (FlagsOK old ∧ FlagsOK bits) from fun h => h2 h.2)]
  · rw [nite_ntr _ _ h1, if_neg (show ¬ (FlagsOK old ∧ FlagsOK bits) from fun h => h1 h.1)]
theorem flagsAfter_ok {old how bits : Int} (h : FlagsOK old) : FlagsOK (flagsAfter old how bits) := by
  unfold flagsAfter
  split
  · rename_i k
    obtain ⟨t1, t2, t3, t4, t5, t6⟩ := flags_tab k.1 k.2
    split
    · exact k.2
    · split
      · exact t5
      · split
        · exact t4
        · exact h
  · exact h
end Go.M
namespace Go.M
open Go.Ev Go.G
theorem pairwise_adj {l : List Int} (h : ∀ i, 0 < i → i < l.length → ∀ p r, l[i - 1]? = some p → l[i]? = some r → p < r) : l.Pairwise (· < ·) := by
  rw [List.pairwise_iff_getElem]
  intro i j hi hj hij
  induction j with
  | zero => omega
  | succ j ih =>
    have h1 := h (j + 1) (by omega) hj l[j] l[j + 1] (by simp) (by simp)
    by_cases e : i = j
    · subst e; exact h1
    · exact Int.lt_trans (ih (by omega) (by omega)) h1
def uids (l : List Mail) : List Int := l.map (·.1)
theorem BoxOK.grow {b : Box} (h : BoxOK b) : Grow (uids b.2.2.2.2.1) := by
  obtain ⟨_, _, h1, _, _, _, _, h4, _⟩ := h
  refine ⟨pairwise_adj fun i h0 hi p r hp hr => ?_, fun u hu => ?_⟩
  · unfold uids at hi hp hr
    rw [List.length_map] at hi
    rw [List.getElem?_map, Option.map_eq_some_iff] at hp hr
    obtain ⟨p', hp', rfl⟩ := hp
    obtain ⟨r', hr', rfl⟩ := hr
    exact (h4 i hi r' hr').2.1 h0 p' hp'
  · unfold uids at hu
    obtain ⟨m, hm, rfl⟩ := List.mem_map.1 hu
    obtain ⟨i, hi, e⟩ := List.mem_iff_getElem.1 hm
    have := (h4 i hi m (by rw [List.getElem?_eq_getElem hi, e])).1
    omega
theorem Grow.sub {l k : List Int} (h : Grow l) (hs : k.Sublist l) : Grow k := ⟨h.1.sublist hs, fun u hu => h.2 u (hs.subset hu)⟩
theorem uids_sub (q : Mail → Bool) (l : List Mail) : (uids (l.filter q)).Sublist (uids l) := List.Sublist.map _ List.filter_sublist
theorem uids_pre (q : Mail → Bool) {s l pre : List Mail} (h : s = pre ++ l) : (uids (pre.filter q)).Sublist (uids s) := by
  rw [h]
  exact List.Sublist.map _ (List.Sublist.trans List.filter_sublist (List.sublist_append_left _ _))
section
variable (s : List (Int × Int)) (how bits since : Int)
def inFail (m : Mail) : Bool := has s m.1 && (decide (0 ≤ since) && decide (since < m.2.2.1))
noncomputable def inChg (m : Mail) : Bool := has s m.1 && (!(decide (0 ≤ since) && decide (since < m.2.2.1)) && !decide (flagsAfter m.2.1 how bits = m.2.1))
noncomputable def updM (M : Int) (m : Mail) : Mail := if inChg s how bits since m then (m.1, flagsAfter m.2.1 how bits, M, m.2.2.2) else m
noncomputable def setFlagsB (b : Box) : Box :=
  (b.1, b.2.1, b.2.2.1, (if b.2.2.2.2.1.filter (inChg s how bits since) = [] then b.2.2.2.1 else b.2.2.2.1 + 1), b.2.2.2.2.1.map (updM s how bits since (b.2.2.2.1 + 1)), b.2.2.2.2.2.1, b.2.2.2.2.2.2)
open Classical in
noncomputable def setFlags (b : Box) : Box × List (Int × Int) × List (Int × Int) :=
  if BoxOK b ∧ SetOK s ∧ (1 ≤ how ∧ how ≤ 3) ∧ FlagsOK bits ∧ BoxOK (setFlagsB s how bits since b) then
    (setFlagsB s how bits since b, setOf (uids (b.2.2.2.2.1.filter (inChg s how bits since))), setOf (uids (b.2.2.2.2.1.filter (inFail s since))))
  else (b, [], [])
theorem setFlagsB_small {b : Box} (h : BoxSmall b) : BoxSmall (setFlagsB s how bits since b) := by
  refine ⟨h.name, by unfold setFlagsB; simpa using h.mails, h.tombs, fun m hm => ?_⟩
  unfold setFlagsB at hm
  obtain ⟨x, hx, rfl⟩ := List.mem_map.1 hm
  have := h.text x hx
  unfold updM; split <;> exact this
theorem filter_snoc {α : Type} (q : α → Bool) (l : List α) (x : α) : (l ++ [x]).filter q = if q x then l.filter q ++ [x] else l.filter q := by
  rw [List.filter_append]; simp [List.filter_cons]; split <;> simp
theorem uids_snoc (l : List Mail) (x : Mail) : uids (l ++ [x]) = uids l ++ [x.1] := by simp [uids]
noncomputable def flSt (b : Box) (pre l : List Mail) : List (Int × Int) × List (Int × Int) × Int × Box :=
  (setOf (uids (pre.filter (inChg s how bits since))), setOf (uids (pre.filter (inFail s since))), (pre.length : Int),
    (b.1, b.2.1, b.2.2.1, (if pre.filter (inChg s how bits since) = [] then b.2.2.2.1 else b.2.2.2.1 + 1), pre.map (updM s how bits since (b.2.2.2.1 + 1)) ++ l, b.2.2.2.2.2.1, b.2.2.2.2.2.2))
theorem mid_get (pre : List Mail) (r : Mail) (l : List Mail) (f : Mail → Mail) : (pre.map f ++ r :: l)[pre.length]? = some r := by
  have : pre.length = (pre.map f).length := by simp
  rw [this]; simp
theorem mid_set (pre : List Mail) (r x : Mail) (l : List Mail) (f : Mail → Mail) : (pre.map f ++ r :: l).set pre.length x = pre.map f ++ x :: l := by
  have : pre.length = (pre.map f).length := by simp
  rw [this, set_mid]
theorem flSt_step {b : Box} (hb : BoxOK b) (hs : SetOK s) (y : Box) {pre l : List Mail} {r : Mail} (h : b.2.2.2.2.1 = pre ++ r :: l) :
    spec_SetFlags_L1 b s how bits since y (flSt s how bits since b pre (r :: l)) = spec_SetFlags_L1 b s how bits since y (flSt s how bits since b (pre ++ [r]) l) := by
  have h30 := hb.2.2.2.2.2.1
  have hmod := hb.2.2.2.1
  have hl40 := hs.2
  have hlen : pre.length + 1 + l.length ≤ 30 := by rw [h] at h30; simp at h30; omega
  have hbig : ∀ f : Mail → Mail, decide ((pre.length : Int) < ((pre.map f ++ r :: l).length : Int)) = true := fun f => by simp; omega
  have hn : w64 ((pre.length : Int) + 1) = ((pre ++ [r]).length : Int) := by rw [w64_id (by omega) (by omega)]; simp
  have hg : Grow (uids b.2.2.2.2.1) := hb.grow
  have h' : b.2.2.2.2.1 = (pre ++ [r]) ++ l := by rw [h]; simp
  have sub : ∀ q : Mail → Bool, q r = true → Grow (uids (pre.filter q) ++ [r.1]) := fun q hq => by
    have := hg.sub (uids_pre q h')
    rw [filter_snoc, if_pos hq, uids_snoc] at this
    exact this
  have len : ∀ q : Mail → Bool, (uids (pre.filter q)).length < 40 := fun q => by
    have := List.length_filter_le q pre
    simp [uids]; omega
  conv => lhs; rw [spec_SetFlags_L1_eq]; unfold spec_SetFlags_L1_B
  unfold flSt
  dsimp only
  rw [hbig, if_pos rfl, reqO_pos (by simp; omega), idxO_nat (mid_get _ _ _ _), specHas_eq _ (by omega), hn]
  simp only [Option.bind_some]
  by_cases c1 : has s r.1 = true
  · rw [c1, if_neg (by simp)]
    by_cases c2 : 0 ≤ since
    · rw [decide_eq_true c2, if_pos rfl]
      by_cases c3 : since < r.2.2.1
      · have k1 : inFail s since r = true := by simp [inFail, c1, c2, c3]
        have k2 : inChg s how bits since r = false := by simp [inChg, c1, c2, c3]
        rw [decide_eq_true c3, if_pos rfl, setAdd_setOf (sub _ k1) (len _)]
        simp only [Option.bind_some, filter_snoc, k1, k2, if_true, uids_snoc, List.map_append, List.map_cons, List.map_nil, List.append_assoc]
        simp [updM, k2]
      · have k1 : inFail s since r = false := by simp [inFail, c1, c2, c3]
        rw [decide_eq_false c3, if_neg (by simp), specAfter_eq]
        simp only [Option.bind_some]
        rw [reqO_pos (by simp; omega), idxO_nat (mid_get _ _ _ _)]
        by_cases c4 : flagsAfter r.2.1 how bits = r.2.1
        · have k2 : inChg s how bits since r = false := by simp [inChg, c4]
          rw [decide_eq_true c4, if_neg (by simp)]
          simp only [filter_snoc, k1, k2, List.map_append, List.map_cons, List.map_nil, List.append_assoc]
          simp [updM, k2]
        · have k2 : inChg s how bits since r = true := by simp [inChg, c1, c3, c4]
          rw [decide_eq_false c4, if_pos (show (!false) = true from rfl), reqO_pos (by simp; omega), setAdd_setOf (sub _ k2) (len _), w64_id (x := b.2.2.2.1 + 1) (by omega) (by omega), Int.toNat_natCast, mid_set]
          simp only [Option.bind_some, filter_snoc, k1, k2, if_true, uids_snoc, List.map_append, List.map_cons, List.map_nil, List.append_assoc]
          simp [updM, k2]
    · have k1 : inFail s since r = false := by simp [inFail, c2]
      rw [decide_eq_false c2, if_neg (by simp), specAfter_eq]
      simp only [Option.bind_some]
      rw [reqO_pos (by simp; omega), idxO_nat (mid_get _ _ _ _)]
      by_cases c4 : flagsAfter r.2.1 how bits = r.2.1
      · have k2 : inChg s how bits since r = false := by simp [inChg, c4]
        rw [decide_eq_true c4, if_neg (by simp)]
        simp only [filter_snoc, k1, k2, List.map_append, List.map_cons, List.map_nil, List.append_assoc]
        simp [updM, k2]
      · have k2 : inChg s how bits since r = true := by simp [inChg, c1, c2, c4]
        rw [decide_eq_false c4, if_pos (show (!false) = true from rfl), reqO_pos (by simp; omega), setAdd_setOf (sub _ k2) (len _), w64_id (x := b.2.2.2.1 + 1) (by omega) (by omega), Int.toNat_natCast, mid_set]
        simp only [Option.bind_some, filter_snoc, k1, k2, if_true, uids_snoc, List.map_append, List.map_cons, List.map_nil, List.append_assoc]
        simp [updM, k2]
  · have c1' : has s r.1 = false := by simpa using c1
    have k1 : inFail s since r = false := by simp [inFail, c1']
    have k2 : inChg s how bits since r = false := by simp [inChg, c1']
    rw [c1', if_pos (show (!false) = true from rfl)]
    simp only [filter_snoc, k1, k2, List.map_append, List.map_cons, List.map_nil, List.append_assoc]
    simp [updM, k2]
theorem specFlags_run {b : Box} (hb : BoxOK b) (hs : SetOK s) (y : Box) : ∀ (l pre : List Mail), b.2.2.2.2.1 = pre ++ l →
    spec_SetFlags_L1 b s how bits since y (flSt s how bits since b pre l) = spec_SetFlags_L1 b s how bits since y (flSt s how bits since b b.2.2.2.2.1 [])
  | [], pre, h => by rw [h]; simp
  | r :: l, pre, h => by rw [flSt_step s how bits since hb hs y h]; exact specFlags_run hb hs y l (pre ++ [r]) (by rw [h]; simp)
theorem specSetFlags_eq {b : Box} (hb : BoxSmall b) (hs : s.length < 1073741824) : spec_SetFlags b s how bits since = some (setFlags s how bits since b) := by
  unfold spec_SetFlags setFlags
  rw [l08Copy_eq hb, specBoxOk_eq hb, specSetOk_eq (by omega), l01In_eq, specFlags_eq]
  simp only [Option.bind_some, tr_dec]
  by_cases h1 : BoxOK b
  · rw [nite_tr _ _ h1]
    by_cases h2 : SetOK s
    · rw [nite_tr _ _ h2]
      by_cases h3 : 1 ≤ how ∧ how ≤ 3
      · rw [nite_tr _ _ h3]
        by_cases h4 : FlagsOK bits
        · rw [nite_tr _ _ h4]
          have := specFlags_run s how bits since h1 h2 b b.2.2.2.2.1 [] rfl
          rw [show flSt s how bits since b [] b.2.2.2.2.1 = ([], [], 0, b) from rfl] at this
          rw [this, spec_SetFlags_L1_eq]
          unfold spec_SetFlags_L1_B flSt
          dsimp only
          rw [if_neg (by simp), List.append_nil]
          have e := setFlagsB_small s how bits since hb
          unfold setFlagsB at e
          rw [specBoxOk_eq e]
          show (if (!tr (BoxOK (setFlagsB s how bits since b))) = true then some (b, [], []) else some (setFlagsB s how bits since b, _, _)) = _
          by_cases h5 : BoxOK (setFlagsB s how bits since b)
          · rw [nite_tr _ _ h5, if_pos (show BoxOK b ∧ SetOK s ∧ (1 ≤ how ∧ how ≤ 3) ∧ FlagsOK bits ∧ BoxOK (setFlagsB s how bits since b) from ⟨h1, h2, h3, h4, h5⟩)]
          · rw [nite_ntr _ _ h5, if_neg (show ¬ (BoxOK b ∧ SetOK s ∧ (1 ≤ how ∧ how ≤ 3) ∧ FlagsOK bits ∧ BoxOK (setFlagsB s how bits since b)) from fun h => h5 h.2.2.2.2)]
        · rw [nite_ntr _ _ h4, if_neg fun h => h4 h.2.2.2.1]
      · rw [nite_ntr _ _ h3, if_neg fun h => h3 h.2.2.1]
    · rw [nite_ntr _ _ h2, if_neg fun h => h2 h.2.1]
  · rw [nite_ntr _ _ h1, if_neg fun h => h1 h.1]
theorem modify_at {α : Type} (x : α) (l : List α) (g : α → α) : ∀ a : List α, (a ++ x :: l).modify a.length g = a ++ g x :: l
  | [] => by simp
  | y :: a => by simp [modify_at x l g a]
theorem modify_mid (pre : List Mail) (r : Mail) (l : List Mail) (f : Mail → Mail) (g : Mail → Mail) : (pre.map f ++ r :: l).modify pre.length g = pre.map f ++ g r :: l := by
  have : pre.length = (pre.map f).length := by simp
  rw [this, modify_at]
noncomputable def flSi (b : Box) (pre l : List Mail) : List Int × List Int × Int × Box :=
  (uids (pre.filter (inChg s how bits since)), uids (pre.filter (inFail s since)), (pre.length : Int),
    (b.1, b.2.1, b.2.2.1, b.2.2.2.1, pre.map (updM s how bits since (b.2.2.2.1 + 1)) ++ l, b.2.2.2.2.2.1, b.2.2.2.2.2.2))
theorem flSi_step {b : Box} (hb : BoxOK b) (hs : SetOK s) {pre l : List Mail} {r : Mail} (h : b.2.2.2.2.1 = pre ++ r :: l) :
    impl_SetFlags_L1 b s how bits since (flSi s how bits since b pre (r :: l)) = impl_SetFlags_L1 b s how bits since (flSi s how bits since b (pre ++ [r]) l) := by
  have h30 := hb.2.2.2.2.2.1
  have hmod := hb.2.2.2.1
  have hl40 := hs.2
  have hlen : pre.length + 1 + l.length ≤ 30 := by rw [h] at h30; simp at h30; omega
  have hp : pre.length < b.2.2.2.2.1.length := by rw [h]; simp
  have hn : w64 ((pre.length : Int) + 1) = ((pre ++ [r]).length : Int) := by rw [w64_id (by omega) (by omega)]; simp
  have len : ∀ q : Mail → Bool, (uids (pre.filter q)).length + [r.1].length ≤ bound := fun q => by
    have := List.length_filter_le q pre
    simp [uids, bound]; omega
  conv => lhs; rw [impl_SetFlags_L1_eq]; unfold impl_SetFlags_L1_B
  unfold flSi
  dsimp only
  rw [dlt hp, if_pos rfl, idxO_nat (r := r) (by rw [h]; simp), implHas_eq _ (by omega), hn]
  simp only [Option.bind_some]
  by_cases c1 : has s r.1 = true
  · rw [c1, if_neg (by simp)]
    by_cases c2 : 0 ≤ since
    · rw [decide_eq_true c2, if_pos rfl]
      by_cases c3 : since < r.2.2.1
      · have k1 : inFail s since r = true := by simp [inFail, c1, c2, c3]
        have k2 : inChg s how bits since r = false := by simp [inChg, c1, c2, c3]
        rw [decide_eq_true c3, if_pos rfl, reqO_pos (len _)]
        simp only [filter_snoc, k1, k2, if_true, uids_snoc, List.map_append, List.map_cons, List.map_nil, List.append_assoc]
        simp [updM, k2]
      · have k1 : inFail s since r = false := by simp [inFail, c1, c2, c3]
        rw [decide_eq_false c3, if_neg (by simp), implAfter_eq]
        simp only [Option.bind_some]
        by_cases c4 : flagsAfter r.2.1 how bits = r.2.1
        · have k2 : inChg s how bits since r = false := by simp [inChg, c4]
          rw [decide_eq_true c4, if_neg (by simp)]
          simp only [filter_snoc, k1, k2, List.map_append, List.map_cons, List.map_nil, List.append_assoc]
          simp [updM, k2]
        · have k2 : inChg s how bits since r = true := by simp [inChg, c1, c3, c4]
          rw [decide_eq_false c4, if_pos (show (!false) = true from rfl), reqO_pos (by simp; omega), reqO_pos (by simp; omega), reqO_pos (len _), w64_id (x := b.2.2.2.1 + 1) (by omega) (by omega), Int.toNat_natCast, modify_mid, modify_mid]
          simp only [filter_snoc, k1, k2, if_true, uids_snoc, List.map_append, List.map_cons, List.map_nil, List.append_assoc]
          simp [updM, k2]
    · have k1 : inFail s since r = false := by simp [inFail, c2]
      rw [decide_eq_false c2, if_neg (by simp), implAfter_eq]
      simp only [Option.bind_some]
      by_cases c4 : flagsAfter r.2.1 how bits = r.2.1
      · have k2 : inChg s how bits since r = false := by simp [inChg, c4]
        rw [decide_eq_true c4, if_neg (by simp)]
        simp only [filter_snoc, k1, k2, List.map_append, List.map_cons, List.map_nil, List.append_assoc]
        simp [updM, k2]
      · have k2 : inChg s how bits since r = true := by simp [inChg, c1, c2, c4]
        rw [decide_eq_false c4, if_pos (show (!false) = true from rfl), reqO_pos (by simp; omega), reqO_pos (by simp; omega), reqO_pos (len _), w64_id (x := b.2.2.2.1 + 1) (by omega) (by omega), Int.toNat_natCast, modify_mid, modify_mid]
        simp only [filter_snoc, k1, k2, if_true, uids_snoc, List.map_append, List.map_cons, List.map_nil, List.append_assoc]
        simp [updM, k2]
  · have c1' : has s r.1 = false := by simpa using c1
    have k1 : inFail s since r = false := by simp [inFail, c1']
    have k2 : inChg s how bits since r = false := by simp [inChg, c1']
    rw [c1', if_pos (show (!false) = true from rfl)]
    simp only [filter_snoc, k1, k2, List.map_append, List.map_cons, List.map_nil, List.append_assoc]
    simp [updM, k2]
theorem flSi_run {b : Box} (hb : BoxOK b) (hs : SetOK s) : ∀ (l pre : List Mail), b.2.2.2.2.1 = pre ++ l →
    impl_SetFlags_L1 b s how bits since (flSi s how bits since b pre l) = impl_SetFlags_L1 b s how bits since (flSi s how bits since b b.2.2.2.2.1 [])
  | [], pre, h => by rw [h]; simp
  | r :: l, pre, h => by rw [flSi_step s how bits since hb hs h]; exact flSi_run hb hs l (pre ++ [r]) (by rw [h]; simp)
end
theorem setOfList_at {L : List Int} (hg : Grow L) (hl : L.length < 1000000) : ∀ (l pre : List Int), L = pre ++ l → impl_setOfList_L1 L (setOf pre, (pre.length : Int)) = some (setOf L, tr (SetOK (setOf L)))
  | [], pre, h => by
    have a := setOf_grow hg
    have := a.len
    rw [impl_setOfList_L1_eq]; unfold impl_setOfList_L1_B
    simp only [List.append_nil] at h
    dsimp only
    rw [if_neg (by rw [h]; simp), ← h, implSetOk_eq (by omega), tr_dec]; rfl
  | r :: l, pre, h => by
    have hp : pre.length < L.length := by rw [h]; simp
    have hg' : Grow (pre ++ [r]) := hg.sub (by rw [h, show pre ++ r :: l = (pre ++ [r]) ++ l by simp]; exact List.sublist_append_left _ _)
    obtain ⟨hgp, ht, h1, h9⟩ := grow_snoc hg'
    have a := setOf_grow hgp
    have alen := a.len
    have ih := setOfList_at hg hl l (pre ++ [r]) (by rw [h]; simp)
    rw [setOf_snoc] at ih
    conv => lhs; rw [impl_setOfList_L1_eq]; unfold impl_setOfList_L1_B
    dsimp only
    rw [dlt hp, if_pos rfl, idxO_nat (r := r) (by rw [h]; simp), show w64 ((pre.length : Int) + 1) = ((pre ++ [r]).length : Int) by rw [w64_id (by omega) (by omega)]; simp]
    rcases snoc_cases (setOf pre) with e | ⟨q, p, e⟩
    · rw [e] at ih ⊢
      rw [if_neg (by rw [List.length_nil, w64_id] <;> simp), reqO_pos (by simp [bound])]
      exact ih
    · rw [e] at ih ⊢ alen
      rw [addU_snoc] at ih
      simp at alen
      have e1 : w64 (((q ++ [p]).length : Int) - 1) = (q.length : Int) := by rw [w64_id] <;> simp <;> omega
      rw [e1, decide_eq_true (by omega), if_pos rfl, reqO_pos (by simp; omega), idxO_nat (r := p) (by simp), w64_id (x := r - 1) (by omega) (by omega)]
      by_cases k : p.2 = r - 1
      · rw [if_pos k] at ih
        rw [decide_eq_true k, if_pos rfl, reqO_pos (by simp; omega), Int.toNat_natCast, modify_last]
        exact ih
      · rw [if_neg k] at ih
        rw [decide_eq_false k, if_neg (by simp), reqO_pos (by simp [bound]; omega)]
        exact ih
theorem setOfList_eq {L : List Int} (hg : Grow L) (hl : L.length < 1000000) : impl_setOfList L = some (setOf L, tr (SetOK (setOf L))) := setOfList_at hg hl L [] rfl
theorem implSetFlags_eq (s : List (Int × Int)) (how bits since : Int) {b : Box} (hb : BoxSmall b) (hs : s.length < 1073741824) : impl_SetFlags b s how bits since = some (setFlags s how bits since b) := by
  unfold impl_SetFlags setFlags
  rw [copyBox_eq hb, implBoxOk_eq hb, implSetOk_eq (by omega), within_eq, implFlags_eq]
  simp only [Option.bind_some, tr_dec]
  by_cases h1 : BoxOK b
  · rw [nite_tr _ _ h1]
    by_cases h2 : SetOK s
    · rw [nite_tr _ _ h2]
      by_cases h3 : 1 ≤ how ∧ how ≤ 3
      · rw [nite_tr _ _ h3]
        by_cases h4 : FlagsOK bits
        · rw [nite_tr _ _ h4]
          have := flSi_run s how bits since h1 h2 b.2.2.2.2.1 [] rfl
          rw [show flSi s how bits since b [] b.2.2.2.2.1 = ([], [], 0, b) from rfl] at this
          rw [this, impl_SetFlags_L1_eq]
          unfold impl_SetFlags_L1_B flSi
          dsimp only
          have h30 := h1.2.2.2.2.2.1
          have hmod := h1.2.2.2.1
          have sub : ∀ q : Mail → Bool, impl_setOfList (uids (b.2.2.2.2.1.filter q)) = some (setOf (uids (b.2.2.2.2.1.filter q)), tr (SetOK (setOf (uids (b.2.2.2.2.1.filter q))))) := fun q =>
            setOfList_eq (h1.grow.sub (uids_sub q _)) (by have := List.length_filter_le q b.2.2.2.2.1; simp [uids]; omega)
          rw [if_neg (by simp), List.append_nil, sub, sub, copyBox_eq hb]
          have e := setFlagsB_small s how bits since hb
          by_cases h6 : b.2.2.2.2.1.filter (inChg s how bits since) = []
          · have e6 : setFlagsB s how bits since b = (b.1, b.2.1, b.2.2.1, b.2.2.2.1, b.2.2.2.2.1.map (updM s how bits since (b.2.2.2.1 + 1)), b.2.2.2.2.2.1, b.2.2.2.2.2.2) := by unfold setFlagsB; rw [if_pos h6]
            rw [← e6, implBoxOk_eq e, if_neg (by rw [h6]; simp [uids])]
            simp only [Option.bind_some]
            by_cases h5 : BoxOK (setFlagsB s how bits since b)
            · rw [nite_tr _ _ h5, if_pos (show BoxOK b ∧ SetOK s ∧ (1 ≤ how ∧ how ≤ 3) ∧ FlagsOK bits ∧ BoxOK (setFlagsB s how bits since b) from ⟨h1, h2, h3, h4, h5⟩)]
            · rw [nite_ntr _ _ h5, if_neg (show ¬ (BoxOK b ∧ SetOK s ∧ (1 ≤ how ∧ how ≤ 3) ∧ FlagsOK bits ∧ BoxOK (setFlagsB s how bits since b)) from fun h => h5 h.2.2.2.2)]
          · have e6 : setFlagsB s how bits since b = (b.1, b.2.1, b.2.2.1, b.2.2.2.1 + 1, b.2.2.2.2.1.map (updM s how bits since (b.2.2.2.1 + 1)), b.2.2.2.2.2.1, b.2.2.2.2.2.2) := by unfold setFlagsB; rw [if_neg h6]
            have h7 : 0 < (b.2.2.2.2.1.filter (inChg s how bits since)).length := by
              rcases k : b.2.2.2.2.1.filter (inChg s how bits since) with _ | ⟨x, y⟩
              · exact absurd k h6
              · simp
            rw [if_pos (decide_eq_true (by unfold uids; rw [List.length_map]; omega)), w64_id (x := b.2.2.2.1 + 1) (by omega) (by omega), ← e6, implBoxOk_eq e]
            simp only [Option.bind_some]
            by_cases h5 : BoxOK (setFlagsB s how bits since b)
            · rw [nite_tr _ _ h5, if_pos (show BoxOK b ∧ SetOK s ∧ (1 ≤ how ∧ how ≤ 3) ∧ FlagsOK bits ∧ BoxOK (setFlagsB s how bits since b) from ⟨h1, h2, h3, h4, h5⟩)]
            · rw [nite_ntr _ _ h5, if_neg (show ¬ (BoxOK b ∧ SetOK s ∧ (1 ≤ how ∧ how ≤ 3) ∧ FlagsOK bits ∧ BoxOK (setFlagsB s how bits since b)) from fun h => h5 h.2.2.2.2)]
        · rw [nite_ntr _ _ h4, if_neg fun h => h4 h.2.2.2.1]
      · rw [nite_ntr _ _ h3, if_neg fun h => h3 h.2.2.1]
    · rw [nite_ntr _ _ h2, if_neg fun h => h2 h.2.1]
  · rw [nite_ntr _ _ h1, if_neg fun h => h1 h.1]
end Go.M
namespace Go.M
open Go.Ev Go.G
def isGone (s : List (Int × Int)) (m : Mail) : Bool := has s m.1 && !decide (andI .i64 m.2.1 8 = 0)
def stays (s : List (Int × Int)) (m : Mail) : Bool := !isGone s m
def toTombs (M : Int) (l : List Mail) : List (Int × Int) := l.map fun m => (m.1, M)
def trim : Nat → List (Int × Int) → Int → List (Int × Int) × Int
  | 0, ts, hz => (ts, hz)
  | n + 1, ts, hz => if 40 < ts.length then (match ts with | t :: r => trim n (r.dropWhile fun x => decide (x.2 ≤ t.2)) t.2 | [] => (ts, hz)) else (ts, hz)
def expB (s : List (Int × Int)) (b : Box) : Box :=
  let ts := b.2.2.2.2.2.1 ++ toTombs (b.2.2.2.1 + 1) (b.2.2.2.2.1.filter (isGone s))
  let t := trim ts.length ts b.2.2.2.2.2.2
  (b.1, b.2.1, b.2.2.1, b.2.2.2.1 + 1, b.2.2.2.2.1.filter (stays s), t.1, t.2)
open Classical in
noncomputable def expunge (s : List (Int × Int)) (b : Box) : Box × List (Int × Int) :=
  if BoxOK b ∧ SetOK s ∧ b.2.2.2.2.1.filter (isGone s) ≠ [] ∧ BoxOK (expB s b) then (expB s b, setOf (uids (b.2.2.2.2.1.filter (isGone s)))) else (b, [])
theorem trim_len : ∀ (n : Nat) (ts : List (Int × Int)) (hz : Int), (trim n ts hz).1.length ≤ ts.length
  | 0, ts, hz => Nat.le_refl _
  | n + 1, ts, hz => by
    unfold trim
    split
    · rcases ts with _ | ⟨t, r⟩
      · exact Nat.le_refl _
      · have h1 := trim_len n (r.dropWhile fun x => decide (x.2 ≤ t.2)) t.2
        have h2 := (List.dropWhile_sublist (l := r) (fun x => decide (x.2 ≤ t.2))).length_le
        show (trim n _ _).1.length ≤ _
        simp; omega
    · exact Nat.le_refl _
theorem expB_small {s : List (Int × Int)} {b : Box} (h : BoxOK b) : BoxSmall (expB s b) := by
  have hs := h.small
  have h30 := h.2.2.2.2.2.1
  have h40 := h.2.2.2.2.2.2.1
  refine ⟨hs.name, ?_, ?_, fun m hm => ?_⟩
  · have := List.length_filter_le (stays s) b.2.2.2.2.1
    show (b.2.2.2.2.1.filter (stays s)).length < _
    omega
  · refine Nat.lt_of_le_of_lt (trim_len _ _ _) ?_
    have := List.length_filter_le (isGone s) b.2.2.2.2.1
    simp [toTombs]; omega
  · exact hs.text m ((List.mem_filter.1 hm).1)
section
variable (n : List UInt8) (va nx md : Int) (left : List Mail)
theorem specL3 (go : Box → Option (Box × List (Int × Int))) (hz : Int) : ∀ ts : List (Int × Int), ts.length < 1000000 →
    spec_Expunge_L3 go (n, va, nx, md, left, ts, hz) = go (n, va, nx, md, left, ts.dropWhile (fun x => decide (x.2 ≤ hz)), hz)
  | [], _ => by rw [spec_Expunge_L3_eq]; unfold spec_Expunge_L3_B; dsimp only; rw [if_neg (by simp)]; rfl
  | t :: r, hl => by
    simp at hl
    rw [spec_Expunge_L3_eq]; unfold spec_Expunge_L3_B; dsimp only
    rw [decide_eq_true (by simp), if_pos rfl, reqO_pos (by simp), show (0 : Int) = ((0 : Nat) : Int) from rfl, idxO_nat (r := t) (by simp)]
    by_cases k : t.2 ≤ hz
    · rw [decide_eq_true k, if_pos rfl, reqO_pos (by simp; omega), reqO_pos (by simp [bound]; omega), List.dropWhile_cons_of_pos (by simpa using k)]
      have := specL3 go hz r (by omega)
      simpa using this
    · rw [decide_eq_false k, if_neg (by simp), List.dropWhile_cons_of_neg (by simpa using k)]
noncomputable def expE (y : Box) (g : List (Int × Int)) (ts : List (Int × Int) × Int) : Option (Box × List (Int × Int)) :=
  (spec_BoxOk (n, va, nx, md, left, ts.1, ts.2)).bind fun t3 => if (!t3) = true then some (y, []) else some ((n, va, nx, md, left, ts.1, ts.2), g)
theorem specL2 (y : Box) (v : List (Int × Int) × Int × Box) : ∀ (k : Nat) (ts : List (Int × Int)) (hz : Int), ts.length ≤ k → ts.length < 1000000 →
    spec_Expunge_L2 y v (n, va, nx, md, left, ts, hz) = expE n va nx md left y v.1 (trim k ts hz)
  | 0, ts, hz, h, _ => by
    rw [spec_Expunge_L2_eq]; unfold spec_Expunge_L2_B; dsimp only
    rw [decide_eq_false (by omega), if_neg (by simp)]; rfl
  | k + 1, ts, hz, h, hl => by
    rw [spec_Expunge_L2_eq]; unfold spec_Expunge_L2_B trim; dsimp only
    by_cases c : 40 < ts.length
    · rcases ts with _ | ⟨t, r⟩
      · simp at c
      · simp at h hl
        rw [decide_eq_true (by omega), if_pos rfl, if_pos c, reqO_pos (by simp), show (0 : Int) = ((0 : Nat) : Int) from rfl, idxO_nat (r := t) (by simp), specL3 n va nx md left _ _ _ (by simp; omega),
          List.dropWhile_cons_of_pos (by simp)]
        have h2 := (List.dropWhile_sublist (l := r) (fun x => decide (x.2 ≤ t.2))).length_le
        exact specL2 y v k _ _ (by omega) (by omega)
    · rw [decide_eq_false (by omega), if_neg (by simp), if_neg c]; rfl
def Sorted (ts : List (Int × Int)) : Prop := ts.Pairwise fun a b => a.2 ≤ b.2
theorem filter_drop : ∀ (r : List (Int × Int)) (h : Int), Sorted r → (∀ x ∈ r, h ≤ x.2) → (r.filter fun x => !decide (x.2 = h)) = r.dropWhile fun x => decide (x.2 ≤ h)
  | [], h, _, _ => rfl
  | t :: r, h, hs, hm => by
    have h1 := List.pairwise_cons.1 hs
    by_cases k : t.2 = h
    · rw [List.filter_cons_of_neg (by simp [k]), List.dropWhile_cons_of_pos (by simp [k]), filter_drop r h h1.2 fun x hx => hm x (by simp [hx])]
    · have := hm t (by simp)
      rw [List.dropWhile_cons_of_neg (by simp; omega), List.filter_eq_self.2]
      intro x hx
      rcases List.mem_cons.1 hx with rfl | hx
      · simp [k]
      · have := h1.1 x hx
        simp; omega
theorem implL2 (b : Box) (hb : BoxSmall b) (t : Bool) (v : List Int × Int × Box) (hv : Grow v.1) (hvl : v.1.length < 1000000) (hN : n.length < 1000000) (hL : left.length < 1000000) (hT : ∀ m ∈ left, m.2.2.2.length < 1073741824) : ∀ (k : Nat) (ts : List (Int × Int)) (hz : Int), ts.length ≤ k → ts.length < 1000000 → Sorted ts →
    impl_Expunge_L2 b t v (n, va, nx, md, left, ts, hz) = expE n va nx md left b (setOf v.1) (trim k ts hz)
  | 0, ts, hz, h, hl, _ => by
    rw [impl_Expunge_L2_eq]; unfold impl_Expunge_L2_B; dsimp only
    have hsm : BoxSmall (n, va, nx, md, left, ts, hz) := ⟨by show n.length < _; omega, by show left.length < _; omega, by show ts.length < _; omega, hT⟩
    rw [decide_eq_false (by omega), if_neg (by simp), copyBox_eq hb, setOfList_eq hv hvl, implBoxOk_eq hsm]; unfold expE; rw [show (trim 0 ts hz) = (ts, hz) from rfl]; dsimp only; rw [specBoxOk_eq hsm]; rfl
  | k + 1, ts, hz, h, hl, hs => by
    rw [impl_Expunge_L2_eq]; unfold impl_Expunge_L2_B trim; dsimp only
    by_cases c : 40 < ts.length
    · rcases ts with _ | ⟨x, r⟩
      · simp at c
      · simp at h hl
        have h1 := List.pairwise_cons.1 hs
        rw [decide_eq_true (by omega), if_pos rfl, if_pos c, reqO_pos (by simp), show (0 : Int) = ((0 : Nat) : Int) from rfl, idxO_nat (r := x) (by simp),
          deleteTomb (q := fun y => decide (y.2 = x.2)) (fun y _ => by rw [predO_fn]; rfl) (by simp; omega)]
        have h2 := (List.dropWhile_sublist (l := r) (fun y => decide (y.2 ≤ x.2)))
        have h3 := h2.length_le
        simp only [Option.bind_some]
        rw [List.filter_cons_of_neg (by simp), filter_drop r x.2 h1.2 h1.1]
        exact implL2 b hb t v hv hvl hN hL hT k _ _ (by omega) (by omega) (h1.2.sublist h2)
    · have hsm : BoxSmall (n, va, nx, md, left, ts, hz) := ⟨by show n.length < _; omega, by show left.length < _; omega, by show ts.length < _; omega, hT⟩
      rw [decide_eq_false (by omega), if_neg (by simp), if_neg c, copyBox_eq hb, setOfList_eq hv hvl, implBoxOk_eq hsm]; unfold expE; dsimp only; rw [specBoxOk_eq hsm]; rfl
end
section
variable (s : List (Int × Int))
theorem toTombs_snoc (M : Int) (l : List Mail) (r : Mail) : toTombs M (l ++ [r]) = toTombs M l ++ [(r.1, M)] := by simp [toTombs]
noncomputable def exSt (b : Box) (pre : List Mail) : List (Int × Int) × Int × Box :=
  (setOf (uids (pre.filter (isGone s))), (pre.length : Int), (b.1, b.2.1, b.2.2.1, b.2.2.2.1 + 1, pre.filter (stays s), b.2.2.2.2.2.1 ++ toTombs (b.2.2.2.1 + 1) (pre.filter (isGone s)), b.2.2.2.2.2.2))
def exSi (b : Box) (pre : List Mail) : List Int × Int × Box :=
  (uids (pre.filter (isGone s)), (pre.length : Int), (b.1, b.2.1, b.2.2.1, b.2.2.2.1, b.2.2.2.2.1, b.2.2.2.2.2.1 ++ toTombs (b.2.2.2.1 + 1) (pre.filter (isGone s)), b.2.2.2.2.2.2))
theorem ok_flags {b : Box} (hb : BoxOK b) {m : Mail} (hm : m ∈ b.2.2.2.2.1) : FlagsOK m.2.1 := by
  obtain ⟨_, _, _, _, _, _, _, h4, _⟩ := hb
  obtain ⟨i, hi, e⟩ := List.mem_iff_getElem.1 hm
  exact (h4 i hi m (by rw [List.getElem?_eq_getElem hi, e])).2.2.1
theorem exSt_step {b : Box} (hb : BoxOK b) (hs : SetOK s) (y : Box) {pre l : List Mail} {r : Mail} (h : b.2.2.2.2.1 = pre ++ r :: l) :
    spec_Expunge_L1 b s y (exSt s b pre) = spec_Expunge_L1 b s y (exSt s b (pre ++ [r])) := by
  have h30 := hb.2.2.2.2.2.1
  have h40 := hb.2.2.2.2.2.2.1
  have hl40 := hs.2
  have hlen : pre.length + 1 + l.length ≤ 30 := by rw [h] at h30; simp at h30; omega
  have hp : pre.length < b.2.2.2.2.1.length := by rw [h]; simp
  have hn : w64 ((pre.length : Int) + 1) = ((pre ++ [r]).length : Int) := by rw [w64_id (by omega) (by omega)]; simp
  have hg : Grow (uids b.2.2.2.2.1) := hb.grow
  have h' : b.2.2.2.2.1 = (pre ++ [r]) ++ l := by rw [h]; simp
  have sub : ∀ q : Mail → Bool, q r = true → Grow (uids (pre.filter q) ++ [r.1]) := fun q hq => by
    have := hg.sub (uids_pre q h')
    rw [filter_snoc, if_pos hq, uids_snoc] at this
    exact this
  have len : ∀ q : Mail → Bool, (pre.filter q).length ≤ pre.length := fun q => List.length_filter_le q pre
  have hf : FlagsOK r.2.1 := ok_flags hb (by rw [h]; simp)
  have h8 : FlagsOK 8 := by unfold FlagsOK; omega
  obtain ⟨_, _, _, _, _, t6⟩ := flags_tab hf h8
  have lr : [r].length = 1 := rfl
  have lt : [(r.1, b.2.2.2.1 + 1)].length = 1 := rfl
  have tl : ∀ q : Mail → Bool, (toTombs (b.2.2.2.1 + 1) (pre.filter q)).length = (pre.filter q).length := fun q => by simp [toTombs]
  conv => lhs; rw [spec_Expunge_L1_eq]; unfold spec_Expunge_L1_B
  unfold exSt
  dsimp only
  rw [dlt hp, if_pos rfl, idxO_nat (r := r) (by rw [h]; simp), specHas_eq _ (by omega), hn]
  simp only [Option.bind_some]
  have lst := len (stays s)
  have lgo := len (isGone s)
  by_cases c1 : has s r.1 = true
  · rw [c1, if_pos rfl, l06And_eq hf h8]
    simp only [Option.bind_some]
    by_cases c2 : 0 < andI .i64 r.2.1 8
    · have k1 : isGone s r = true := by simp [isGone, c1]; omega
      have k2 : stays s r = false := by simp [stays, k1]
      rw [decide_eq_true c2, if_pos rfl, setAdd_setOf (sub _ k1) (by simp [uids]; omega)]
      simp only [Option.bind_some]
      rw [reqO_pos (by rw [List.length_append, tl, lt]; simp only [bound]; omega)]
      simp only [filter_snoc, k1, k2, if_true, uids_snoc, toTombs_snoc, List.append_assoc]
      simp
    · have k1 : isGone s r = false := by simp [isGone]; intro _; omega
      have k2 : stays s r = true := by simp [stays, k1]
      rw [decide_eq_false c2, if_neg (by simp), reqO_pos (by rw [lr]; simp only [bound]; omega)]
      simp only [filter_snoc, k1, k2, if_true]
      simp
  · have c1' : has s r.1 = false := by simpa using c1
    have k1 : isGone s r = false := by simp [isGone, c1']
    have k2 : stays s r = true := by simp [stays, k1]
    rw [c1', if_neg (by simp), reqO_pos (by rw [lr]; simp only [bound]; omega)]
    simp only [filter_snoc, k1, k2, if_true]
    simp
theorem exSt_run {b : Box} (hb : BoxOK b) (hs : SetOK s) (y : Box) : ∀ (l pre : List Mail), b.2.2.2.2.1 = pre ++ l → spec_Expunge_L1 b s y (exSt s b pre) = spec_Expunge_L1 b s y (exSt s b b.2.2.2.2.1)
  | [], pre, h => by rw [h]; simp
  | r :: l, pre, h => by rw [exSt_step s hb hs y h]; exact exSt_run hb hs y l (pre ++ [r]) (by rw [h]; simp)
theorem gone_eq (hs : SetOK s) (r : Mail) : impl_Expunge_c1 r s = some (isGone s r) := by
  have := hs.2
  unfold impl_Expunge_c1 isGone
  rw [implHas_eq _ (by omega)]
  cases has s r.1 <;> simp
theorem exSi_step {b : Box} (hb : BoxOK b) (hs : SetOK s) (t : Bool) {pre l : List Mail} {r : Mail} (h : b.2.2.2.2.1 = pre ++ r :: l) :
    impl_Expunge_L1 b s t (exSi s b pre) = impl_Expunge_L1 b s t (exSi s b (pre ++ [r])) := by
  have h30 := hb.2.2.2.2.2.1
  have h40 := hb.2.2.2.2.2.2.1
  have hmod := hb.2.2.2.1
  have hlen : pre.length + 1 + l.length ≤ 30 := by rw [h] at h30; simp at h30; omega
  have hp : pre.length < b.2.2.2.2.1.length := by rw [h]; simp
  have hn : w64 ((pre.length : Int) + 1) = ((pre ++ [r]).length : Int) := by rw [w64_id (by omega) (by omega)]; simp
  have len : ∀ q : Mail → Bool, (pre.filter q).length ≤ pre.length := fun q => List.length_filter_le q pre
  have lgo := len (isGone s)
  conv => lhs; rw [impl_Expunge_L1_eq]; unfold impl_Expunge_L1_B
  unfold exSi
  dsimp only
  rw [dlt hp, if_pos rfl, idxO_nat (r := r) (by rw [h]; simp), gone_eq s hs, hn, w64_id (x := b.2.2.2.1 + 1) (by omega) (by omega)]
  simp only [Option.bind_some]
  by_cases k1 : isGone s r = true
  · rw [k1, if_pos rfl, reqO_pos (by simp [uids, bound]; omega), reqO_pos (by simp [toTombs, bound]; omega)]
    simp only [filter_snoc, k1, if_true, uids_snoc, toTombs_snoc, List.append_assoc]
  · rw [if_neg k1]
    simp only [filter_snoc, k1]
    simp
theorem exSi_run {b : Box} (hb : BoxOK b) (hs : SetOK s) (t : Bool) : ∀ (l pre : List Mail), b.2.2.2.2.1 = pre ++ l → impl_Expunge_L1 b s t (exSi s b pre) = impl_Expunge_L1 b s t (exSi s b b.2.2.2.2.1)
  | [], pre, h => by rw [h]; simp
  | r :: l, pre, h => by rw [exSi_step s hb hs t h]; exact exSi_run hb hs t l (pre ++ [r]) (by rw [h]; simp)
theorem pairwise_adj2 {α : Type} {R : α → α → Prop} (ht : ∀ a b c, R a b → R b c → R a c) {l : List α} (h : ∀ i, 0 < i → i < l.length → ∀ p r, l[i - 1]? = some p → l[i]? = some r → R p r) : l.Pairwise R := by
  rw [List.pairwise_iff_getElem]
  intro i j hi hj hij
  induction j with
  | zero => omega
  | succ j ih =>
    have h1 := h (j + 1) (by omega) hj l[j] l[j + 1] (by simp) (by simp)
    by_cases e : i = j
    · subst e; exact h1
    · exact ht _ _ _ (ih (by omega) (by omega)) h1
theorem BoxOK.sorted {b : Box} (h : BoxOK b) : Sorted b.2.2.2.2.2.1 := by
  obtain ⟨_, _, _, _, _, _, _, _, h5⟩ := h
  refine pairwise_adj2 (R := fun a b : Int × Int => a.2 ≤ b.2) (fun a b c h1 h2 => Int.le_trans h1 h2) fun i h0 hi p r hp hr => ?_
  have := (h5 i hi r hr).2.2.2.2 h0 p hp
  omega
theorem BoxOK.tombMod {b : Box} (h : BoxOK b) : ∀ x ∈ b.2.2.2.2.2.1, x.2 ≤ b.2.2.2.1 := fun x hx => by
  obtain ⟨_, _, _, _, _, _, _, _, h5⟩ := h
  obtain ⟨i, hi, e⟩ := List.mem_iff_getElem.1 hx
  exact (h5 i hi x (by rw [List.getElem?_eq_getElem hi, e])).2.1.2
theorem exp_sorted {b : Box} (h : BoxOK b) (l : List Mail) : Sorted (b.2.2.2.2.2.1 ++ toTombs (b.2.2.2.1 + 1) l) := by
  unfold Sorted
  rw [List.pairwise_append]
  refine ⟨h.sorted, ?_, fun x hx y hy => ?_⟩
  · unfold toTombs
    rw [List.pairwise_map]
    exact List.pairwise_of_forall fun _ _ => Int.le_refl _
  · unfold toTombs at hy
    obtain ⟨m, _, rfl⟩ := List.mem_map.1 hy
    have := h.tombMod x hx
    show x.2 ≤ b.2.2.2.1 + 1
    omega
theorem setOf_nil {l : List Int} (h : Grow l) : (setOf l).length = 0 ↔ l = [] := by
  refine ⟨fun e => ?_, fun e => by subst e; rfl⟩
  have := (setOf_grow h).size
  rw [List.eq_nil_of_length_eq_zero e] at this
  simp [size] at this
  exact List.eq_nil_of_length_eq_zero (by omega)
theorem expE_eq {b : Box} (h : BoxOK b) : expE b.1 b.2.1 b.2.2.1 (b.2.2.2.1 + 1) (b.2.2.2.2.1.filter (stays s)) b (setOf (uids (b.2.2.2.2.1.filter (isGone s))))
    (trim (b.2.2.2.2.2.1 ++ toTombs (b.2.2.2.1 + 1) (b.2.2.2.2.1.filter (isGone s))).length (b.2.2.2.2.2.1 ++ toTombs (b.2.2.2.1 + 1) (b.2.2.2.2.1.filter (isGone s))) b.2.2.2.2.2.2) =
    if (!tr (BoxOK (expB s b))) = true then some (b, []) else some (expB s b, setOf (uids (b.2.2.2.2.1.filter (isGone s)))) := by
  have e := specBoxOk_eq (expB_small (s := s) h)
  unfold expE
  have e' : spec_BoxOk (b.1, b.2.1, b.2.2.1, b.2.2.2.1 + 1, b.2.2.2.2.1.filter (stays s), (trim (b.2.2.2.2.2.1 ++ toTombs (b.2.2.2.1 + 1) (b.2.2.2.2.1.filter (isGone s))).length (b.2.2.2.2.2.1 ++ toTombs (b.2.2.2.1 + 1) (b.2.2.2.2.1.filter (isGone s))) b.2.2.2.2.2.2).1,
      (trim (b.2.2.2.2.2.1 ++ toTombs (b.2.2.2.1 + 1) (b.2.2.2.2.1.filter (isGone s))).length (b.2.2.2.2.2.1 ++ toTombs (b.2.2.2.1 + 1) (b.2.2.2.2.1.filter (isGone s))) b.2.2.2.2.2.2).2) = some (tr (BoxOK (expB s b))) := e
  rw [e']; rfl
theorem specExp_eq {b : Box} (hb : BoxSmall b) (hs : s.length < 1073741824) : spec_Expunge b s = some (expunge s b) := by
  unfold spec_Expunge expunge
  rw [l08Copy_eq hb, specBoxOk_eq hb, specSetOk_eq (by omega)]
  simp only [Option.bind_some, tr_dec]
  by_cases h1 : BoxOK b
  · rw [nite_tr _ _ h1]
    by_cases h2 : SetOK s
    · rw [nite_tr _ _ h2]
      have hmod := h1.2.2.2.1
      have h30 := h1.2.2.2.2.2.1
      have h40 := h1.2.2.2.2.2.2.1
      have := exSt_run s h1 h2 b b.2.2.2.2.1 [] rfl
      rw [w64_id (x := b.2.2.2.1 + 1) (by omega) (by omega), show (([] : List (Int × Int)), (0 : Int), ((b.1, b.2.1, b.2.2.1, b.2.2.2.1 + 1, [], b.2.2.2.2.2.1, b.2.2.2.2.2.2) : Box)) = exSt s b [] by simp [exSt, uids, setOf, toTombs], this, spec_Expunge_L1_eq]
      unfold spec_Expunge_L1_B exSt
      dsimp only
      rw [if_neg (by simp)]
      have hg := h1.grow.sub (uids_sub (isGone s) b.2.2.2.2.1)
      have lg := List.length_filter_le (isGone s) b.2.2.2.2.1
      by_cases h3 : b.2.2.2.2.1.filter (isGone s) = []
      · rw [if_neg (show ¬ (BoxOK b ∧ SetOK s ∧ b.2.2.2.2.1.filter (isGone s) ≠ [] ∧ BoxOK (expB s b)) from fun h => h.2.2.1 h3), h3]; rfl
      · have h3' : ¬ ((setOf (uids (b.2.2.2.2.1.filter (isGone s)))).length = 0) := fun e => h3 (by
          have := (setOf_nil hg).1 e
          unfold uids at this
          exact List.map_eq_nil_iff.1 this)
        rw [decide_eq_false (by omega), if_neg (by simp), specL2 _ _ _ _ _ _ _ _ _ _ (Nat.le_refl _) (by simp [toTombs]; omega)]
        dsimp only
        rw [expE_eq s h1]
        by_cases h5 : BoxOK (expB s b)
        · rw [nite_tr _ _ h5, if_pos (show BoxOK b ∧ SetOK s ∧ b.2.2.2.2.1.filter (isGone s) ≠ [] ∧ BoxOK (expB s b) from ⟨h1, h2, h3, h5⟩)]
        · rw [nite_ntr _ _ h5, if_neg (show ¬ (BoxOK b ∧ SetOK s ∧ b.2.2.2.2.1.filter (isGone s) ≠ [] ∧ BoxOK (expB s b)) from fun h => h5 h.2.2.2)]
    · rw [nite_ntr _ _ h2, if_neg fun h => h2 h.2.1]
  · rw [nite_ntr _ _ h1, if_neg fun h => h1 h.1]
theorem implExp_eq {b : Box} (hb : BoxSmall b) (hs : s.length < 1073741824) : impl_Expunge b s = some (expunge s b) := by
  unfold impl_Expunge expunge
  rw [copyBox_eq hb, implBoxOk_eq hb, implSetOk_eq (by omega)]
  simp only [Option.bind_some, tr_dec]
  by_cases h1 : BoxOK b
  · rw [nite_tr _ _ h1]
    by_cases h2 : SetOK s
    · rw [nite_tr _ _ h2]
      have hmod := h1.2.2.2.1
      have h30 := h1.2.2.2.2.2.1
      have h40 := h1.2.2.2.2.2.2.1
      have := exSi_run s h1 h2 (tr (BoxOK b)) b.2.2.2.2.1 [] rfl
      rw [show (([] : List Int), (0 : Int), b) = exSi s b [] by simp [exSi, uids, toTombs], this, impl_Expunge_L1_eq]
      unfold impl_Expunge_L1_B exSi
      dsimp only
      rw [if_neg (by simp)]
      have hg := h1.grow.sub (uids_sub (isGone s) b.2.2.2.2.1)
      have lg := List.length_filter_le (isGone s) b.2.2.2.2.1
      have ls := List.length_filter_le (stays s) b.2.2.2.2.1
      by_cases h3 : b.2.2.2.2.1.filter (isGone s) = []
      · rw [if_neg (show ¬ (BoxOK b ∧ SetOK s ∧ b.2.2.2.2.1.filter (isGone s) ≠ [] ∧ BoxOK (expB s b)) from fun h => h.2.2.1 h3), h3, copyBox_eq hb]; rfl
      · have h3' : ¬ ((uids (b.2.2.2.2.1.filter (isGone s))).length = 0) := fun e => h3 (by
          unfold uids at e
          rw [List.length_map] at e
          exact List.eq_nil_of_length_eq_zero e)
        rw [decide_eq_false (by omega), if_neg (by simp), deleteMail (q := isGone s) (fun x _ => by rw [predO_fn, gone_eq s h2]) (by omega)]
        simp only [Option.bind_some]
        rw [w64_id (x := b.2.2.2.1 + 1) (by omega) (by omega), show (b.2.2.2.2.1.filter fun x => !isGone s x) = b.2.2.2.2.1.filter (stays s) from rfl,
          implL2 b.1 b.2.1 b.2.2.1 (b.2.2.2.1 + 1) (b.2.2.2.2.1.filter (stays s)) b hb _ _ hg (by rw [uids, List.length_map]; omega) (by have := h1.1.2; omega) (by omega) (fun m hm => hb.text m ((List.mem_filter.1 hm).1)) _ _ _ (Nat.le_refl _) (by simp [toTombs]; omega) (exp_sorted h1 _)]
        dsimp only
        rw [expE_eq s h1]
        by_cases h5 : BoxOK (expB s b)
        · rw [nite_tr _ _ h5, if_pos (show BoxOK b ∧ SetOK s ∧ b.2.2.2.2.1.filter (isGone s) ≠ [] ∧ BoxOK (expB s b) from ⟨h1, h2, h3, h5⟩)]
        · rw [nite_ntr _ _ h5, if_neg (show ¬ (BoxOK b ∧ SetOK s ∧ b.2.2.2.2.1.filter (isGone s) ≠ [] ∧ BoxOK (expB s b)) from fun h => h5 h.2.2.2)]
    · rw [nite_ntr _ _ h2, if_neg fun h => h2 h.2.1]
  · rw [nite_ntr _ _ h1, if_neg fun h => h1 h.1]
end
end Go.M
namespace Go.M
open Go.Ev Go.G
theorem less_irrefl : ∀ x : List UInt8, Op.bytesLess x x = false
  | [] => rfl
  | a :: x => by
    have := less_irrefl x
    simp [Op.bytesLess, this]
theorem less_nil (x : List UInt8) : Op.bytesLess x [] = false := by cases x <;> rfl
theorem less_trans : ∀ x y z : List UInt8, Op.bytesLess x y = true → Op.bytesLess y z = true → Op.bytesLess x z = true
  | x, [], z, h, _ => by rw [less_nil] at h; cases h
  | x, b :: y, [], _, h => by rw [less_nil] at h; cases h
  | [], b :: y, c :: z, _, _ => rfl
  | a :: x, b :: y, c :: z, h, h' => by
    simp only [Op.bytesLess, Bool.or_eq_true, Bool.and_eq_true, decide_eq_true_eq, beq_iff_eq] at h h' ⊢
    rcases h with h | ⟨h, k⟩
    · rcases h' with h' | ⟨h', k'⟩
      · exact .inl (UInt8.lt_trans h h')
      · subst h'; exact .inl h
    · subst h
      rcases h' with h' | ⟨h', k'⟩
      · exact .inl h'
      · exact .inr ⟨h', less_trans x y z k k'⟩
theorem less_total : ∀ x y : List UInt8, Op.bytesLess x y = false → x ≠ y → Op.bytesLess y x = true
  | [], [], _, h => absurd rfl h
  | [], b :: y, h, _ => by simp [Op.bytesLess] at h
  | a :: x, [], _, _ => rfl
  | a :: x, b :: y, h, hn => by
    simp only [Op.bytesLess, Bool.or_eq_false_iff, Bool.and_eq_false_iff, decide_eq_false_iff_not, beq_eq_false_iff_ne] at h
    simp only [Op.bytesLess, Bool.or_eq_true, Bool.and_eq_true, decide_eq_true_eq, beq_iff_eq]
    by_cases e : a = b
    · subst e
      right
      refine ⟨rfl, less_total x y ?_ fun e => hn (by rw [e])⟩
      rcases h.2 with k | k
      · exact absurd rfl k
      · exact k
    · left
      have h1 := h.1
      rw [UInt8.not_lt] at h1
      exact UInt8.lt_of_le_of_ne h1 fun k => e k.symm
def NameLt (a b : Box) : Prop := Op.bytesLess a.1 b.1 = true
theorem storeOK_iff (s : List Box × Int) : StoreOK s ↔ (∀ b ∈ s.1, BoxOK b ∧ b.2.1 < s.2) ∧ s.1.Pairwise NameLt ∧ (1 ≤ s.1.length ∧ s.1.length ≤ 4) ∧ (2 ≤ s.2 ∧ s.2 ≤ 9999) := by
  constructor
  · intro h
    refine ⟨fun b hb => ?_, ?_, h.2.1, h.2.2⟩
    · obtain ⟨i, hi, e⟩ := List.mem_iff_getElem.1 hb
      have := h.1 i hi b (by rw [List.getElem?_eq_getElem hi, e])
      exact ⟨this.1, this.2.2⟩
    · exact pairwise_adj2 (R := NameLt) (fun a b c h1 h2 => less_trans _ _ _ h1 h2) fun i h0 hi p r hp hr => (h.1 i hi r hr).2.1 h0 p hp
  · intro ⟨h1, h2, h3, h4⟩
    refine ⟨fun i hi r hr => ?_, h3, h4⟩
    have := h1 r (List.mem_of_getElem? hr)
    refine ⟨this.1, fun h0 p hp => ?_, this.2⟩
    rw [List.pairwise_iff_getElem] at h2
    have := h2 (i - 1) i (by omega) hi (by omega)
    rw [List.getElem?_eq_getElem (by omega)] at hp hr
    cases hp; cases hr
    exact this
theorem boxAt_some {s : List Box × Int} {name : List UInt8} {b : Box} (h : boxAt s name = some b) : b ∈ s.1 ∧ b.1 = name := by
  unfold boxAt at h
  exact ⟨List.mem_of_find?_eq_some h, by simpa using List.find?_some h⟩
theorem putL_names (b : Box) : ∀ l : List Box, (putL b l).map (·.1) = l.map (·.1)
  | [] => rfl
  | x :: l => by
    unfold putL
    split
    · rename_i h; simp [h]
    · simp [putL_names b l]
theorem putL_len (b : Box) (l : List Box) : (putL b l).length = l.length := by
  have := congrArg List.length (putL_names b l)
  simpa using this
theorem putL_mem (b : Box) : ∀ l : List Box, ∀ x ∈ putL b l, x = b ∨ x ∈ l
  | [], x, h => by cases h
  | y :: l, x, h => by
    unfold putL at h
    split at h
    · rcases List.mem_cons.1 h with h | h
      · exact .inl h
      · exact .inr (List.mem_cons_of_mem _ h)
    · rcases List.mem_cons.1 h with h | h
      · exact .inr (by simp [h])
      · rcases putL_mem b l x h with k | k
        · exact .inl k
        · exact .inr (List.mem_cons_of_mem _ k)
theorem pair_names {l l' : List Box} (h : l.map (·.1) = l'.map (·.1)) (hp : l'.Pairwise NameLt) : l.Pairwise NameLt := by
  have e : ∀ k : List Box, k.Pairwise NameLt ↔ (k.map (·.1)).Pairwise (fun a b => Op.bytesLess a b = true) := fun k => by rw [List.pairwise_map]; exact Iff.rfl
  rw [e] at hp ⊢
  rw [h]; exact hp
theorem putBox_ok {s : List Box × Int} (h : StoreOK s) {b : Box} (hb : BoxOK b) (hv : b.2.1 < s.2) : StoreOK (putBox s b) := by
  rw [storeOK_iff] at h ⊢
  obtain ⟨h1, h2, h3, h4⟩ := h
  refine ⟨fun x hx => ?_, pair_names (putL_names b s.1) h2, by unfold putBox; rw [putL_len]; exact h3, h4⟩
  rcases putL_mem b s.1 x hx with e | e
  · subst e; exact ⟨hb, hv⟩
  · exact h1 x e
theorem putBox_names (s : List Box × Int) (b : Box) : (putBox s b).1.map (·.1) = s.1.map (·.1) := putL_names b s.1
theorem boxAt_put_ne {s : List Box × Int} {b : Box} {name : List UInt8} (h : b.1 ≠ name) : boxAt (putBox s b) name = boxAt s name := by
  unfold boxAt putBox
  dsimp only
  induction s.1 with
  | nil => rfl
  | cons x l ih =>
    unfold putL
    split
    · rename_i e
      rw [List.find?_cons_of_neg (by simpa using h), List.find?_cons_of_neg (by simpa [e] using h)]
    · by_cases k : x.1 = name
      · rw [List.find?_cons_of_pos (by simpa using k), List.find?_cons_of_pos (by simpa using k)]
      · rw [List.find?_cons_of_neg (by simpa using k), List.find?_cons_of_neg (by simpa using k), ih]
theorem find_put_eq {b x : Box} {name : List UInt8} (h : b.1 = name) : ∀ l : List Box, (l.find? fun c => decide (c.1 = name)) = some x → ((putL b l).find? fun c => decide (c.1 = name)) = some b
  | [], hx => by simp at hx
  | y :: l, hx => by
    unfold putL
    by_cases k : y.1 = name
    · rw [if_pos (by rw [k, h]), List.find?_cons_of_pos (by simpa using h)]
    · rw [if_neg (by rw [h]; exact k)]
      rw [List.find?_cons_of_neg (by simpa using k)] at hx ⊢
      exact find_put_eq h l hx
theorem boxAt_put_eq {s : List Box × Int} {b x : Box} {name : List UInt8} (h : b.1 = name) (hx : boxAt s name = some x) : boxAt (putBox s b) name = some b := find_put_eq h s.1 hx
theorem filter_len {α : Type} (q : α → Bool) : ∀ l : List α, (l.filter q).length + (l.filter fun x => !q x).length = l.length
  | [] => rfl
  | x :: l => by
    have := filter_len q l
    cases h : q x <;> simp [h] <;> omega
def newB (name : List UInt8) (valid : Int) : Box := (name, valid, 1, 1, [], [], 0)
theorem newB_ok {name : List UInt8} {valid : Int} (h : NameOK name) (hv : 1 ≤ valid ∧ valid ≤ 9999) : BoxOK (newB name valid) :=
  ⟨h, hv, by show (1 : Int) ≤ 1 ∧ (1 : Int) ≤ 9999; omega, by show (1 : Int) ≤ 1 ∧ (1 : Int) ≤ 100000; omega, by show (0 : Int) ≤ 0 ∧ (0 : Int) ≤ 1; omega, Nat.zero_le _, Nat.zero_le _, fun i hi => absurd hi (Nat.not_lt_zero i), fun i hi => absurd hi (Nat.not_lt_zero i)⟩
theorem implNew_eq {name : List UInt8} {valid : Int} (h : NameOK name) (hv : 1 ≤ valid ∧ valid ≤ 9999) : impl_BoxNew name valid = some (newB name valid, true) := by
  have := newB_ok h hv
  unfold impl_BoxNew
  rw [show ((name, valid, (1 : Int), (1 : Int), ([] : List Mail), ([] : List (Int × Int)), (0 : Int)) : Box) = newB name valid from rfl, implBoxOk_eq this.small]
  simp only [Option.bind_some]
  rw [nite_tr _ _ this]
theorem specNew_eq {name : List UInt8} {valid : Int} (h : NameOK name) (hv : 1 ≤ valid ∧ valid ≤ 9999) : spec_BoxNew name valid = some (newB name valid, true) := by
  have := newB_ok h hv
  unfold spec_BoxNew
  simp only [show ((name, valid, (1 : Int), (1 : Int), ([] : List Mail), ([] : List (Int × Int)), (0 : Int)) : Box) = newB name valid from rfl, specBoxOk_eq this.small, Option.bind_some]
  rw [nite_tr _ _ this]
def insB (s : List Box × Int) (name : List UInt8) : List Box × Int :=
  (s.1.filter (fun b => Op.bytesLess b.1 name) ++ [newB name s.2] ++ s.1.filter (fun b => !Op.bytesLess b.1 name), s.2 + 1)
open Classical in
noncomputable def makeBox (s : List Box × Int) (name : List UInt8) : (List Box × Int) × Int :=
  if StoreOK s ∧ NameOK name then (if (boxAt s name).isSome then (s, 2) else if s.1.length = 4 then (s, 3) else if s.2 = 9999 then (s, 3) else (insB s name, 0)) else (s, 4)
theorem boxAt_none {s : List Box × Int} {name : List UInt8} (h : (boxAt s name).isSome = false) : ∀ b ∈ s.1, b.1 ≠ name := by
  intro b hb e
  unfold boxAt at h
  rw [Option.isSome_eq_false_iff, Option.isNone_iff_eq_none, List.find?_eq_none] at h
  exact h b hb (by simpa using e)
theorem insB_ok {s : List Box × Int} {name : List UInt8} (h : StoreOK s) (hn : NameOK name) (h1 : (boxAt s name).isSome = false) (h2 : s.1.length ≠ 4) (h3 : s.2 ≠ 9999) : StoreOK (insB s name) := by
  have hne := boxAt_none h1
  rw [storeOK_iff] at h ⊢
  obtain ⟨a1, a2, a3, a4⟩ := h
  have hlen : (insB s name).1.length = s.1.length + 1 := by
    have := filter_len (fun b => Op.bytesLess b.1 name) s.1
    unfold insB; simp; omega
  refine ⟨fun b hb => ?_, ?_, by omega, by show 2 ≤ s.2 + 1 ∧ s.2 + 1 ≤ 9999; omega⟩
  · unfold insB at hb ⊢
    dsimp only at hb ⊢
    rcases List.mem_append.1 hb with hb | hb
    · rcases List.mem_append.1 hb with hb | hb
      · have := a1 b (List.mem_filter.1 hb).1
        exact ⟨this.1, by omega⟩
      · simp at hb; subst hb
        exact ⟨newB_ok hn (by omega), by show s.2 < s.2 + 1; omega⟩
    · have := a1 b (List.mem_filter.1 hb).1
      exact ⟨this.1, by omega⟩
  · unfold insB
    dsimp only
    rw [List.append_assoc, List.pairwise_append]
    refine ⟨a2.sublist List.filter_sublist, ?_, fun x hx y hy => ?_⟩
    · rw [List.singleton_append, List.pairwise_cons]
      refine ⟨fun y hy => ?_, a2.sublist List.filter_sublist⟩
      obtain ⟨k1, k2⟩ := List.mem_filter.1 hy
      exact less_total y.1 name (by simpa using k2) (hne y k1)
    · obtain ⟨k1, k2⟩ := List.mem_filter.1 hx
      rcases List.mem_append.1 hy with hy | hy
      · simp at hy; subst hy; exact k2
      · obtain ⟨k3, k4⟩ := List.mem_filter.1 hy
        exact less_trans _ _ _ k2 (less_total y.1 name (by simpa using k4) (hne y k3))
theorem makeL2_at {s : List Box × Int} (hs : StoreSmall s) {name : List UInt8} (hne : ∀ b ∈ s.1, b.1 ≠ name) : ∀ (l pre acc : List Box) (n : Int), s.1 = pre ++ l → acc.length + l.length ≤ bound →
    spec_MakeBox_L2 name s ((pre.length : Int), (acc, n)) = some ((acc ++ l.filter (fun b => !Op.bytesLess b.1 name), n), 0)
  | [], pre, acc, n, h, _ => by rw [spec_MakeBox_L2_eq]; unfold spec_MakeBox_L2_B; dsimp only; rw [if_neg (by rw [h]; simp)]; simp
  | r :: l, pre, acc, n, h, ha => by
    have hlen := hs.len
    have hp : pre.length < s.1.length := by rw [h]; simp
    have hr : s.1[pre.length]? = some r := by rw [h]; simp
    simp at ha
    have hn := hne r (by rw [h]; simp)
    rw [spec_MakeBox_L2_eq]; unfold spec_MakeBox_L2_B; dsimp only
    rw [dlt hp, if_pos rfl, reqO_pos (by omega), idxO_nat hr, decide_eq_false hn, Bool.or_false, show w64 ((pre.length : Int) + 1) = ((pre ++ [r]).length : Int) by rw [w64_id (by omega) (by omega)]; simp]
    by_cases k : Op.bytesLess r.1 name = true
    · rw [if_neg (by simp [k]), makeL2_at hs hne l (pre ++ [r]) acc n (by rw [h]; simp) (by omega), List.filter_cons_of_neg (by simp [k])]
    · rw [if_pos (by simpa using k), reqO_pos (by omega), idxO_nat hr, reqO_pos (by simp; omega), makeL2_at hs hne l (pre ++ [r]) (acc ++ [r]) n (by rw [h]; simp) (by simp; omega), List.filter_cons_of_pos (by simpa using k)]
      simp
theorem makeL1_at {s : List Box × Int} (hs : StoreSmall s) {name : List UInt8} (hne : ∀ b ∈ s.1, b.1 ≠ name) (y2 : Box × Bool) (hb : 2 * s.1.length + 5 ≤ bound) : ∀ (l pre acc : List Box) (n : Int), s.1 = pre ++ l → acc.length + l.length ≤ s.1.length →
    spec_MakeBox_L1 name s y2 ((pre.length : Int), (acc, n)) = some ((acc ++ l.filter (fun b => Op.bytesLess b.1 name) ++ [y2.1] ++ s.1.filter (fun b => !Op.bytesLess b.1 name), n), 0)
  | [], pre, acc, n, h, ha => by
    simp at ha
    rw [spec_MakeBox_L1_eq]; unfold spec_MakeBox_L1_B; dsimp only; rw [if_neg (by rw [h]; simp), reqO_pos (by simp; omega)]
    have := makeL2_at hs hne s.1 [] (acc ++ [y2.1]) n rfl (by simp; omega)
    simpa using this
  | r :: l, pre, acc, n, h, ha => by
    have hlen := hs.len
    have hp : pre.length < s.1.length := by rw [h]; simp
    have hr : s.1[pre.length]? = some r := by rw [h]; simp
    simp at ha
    rw [spec_MakeBox_L1_eq]; unfold spec_MakeBox_L1_B; dsimp only
    rw [dlt hp, if_pos rfl, reqO_pos (by omega), idxO_nat hr, show w64 ((pre.length : Int) + 1) = ((pre ++ [r]).length : Int) by rw [w64_id (by omega) (by omega)]; simp]
    by_cases k : Op.bytesLess r.1 name = true
    · rw [if_pos k, reqO_pos (by omega), idxO_nat hr, reqO_pos (by simp; omega), makeL1_at hs hne y2 hb l (pre ++ [r]) (acc ++ [r]) n (by rw [h]; simp) (by simp; omega), List.filter_cons_of_pos (p := fun b : Box => Op.bytesLess b.1 name) k]
      simp
    · rw [if_neg k, makeL1_at hs hne y2 hb l (pre ++ [r]) acc n (by rw [h]; simp) (by omega), List.filter_cons_of_neg (p := fun b : Box => Op.bytesLess b.1 name) k]
theorem optBox_snd (o : Option Box) : (optBox o).2 = o.isSome := by cases o <;> rfl
theorem specMake_eq {s : List Box × Int} (hs : StoreSmall s) {name : List UInt8} (hn : name.length < 1073741824) : spec_MakeBox s name = some (makeBox s name) := by
  unfold spec_MakeBox makeBox
  rw [l09Copy_eq hs, specStoreOk_eq hs, specName_eq (by omega), specAt_eq hs]
  simp only [Option.bind_some, optBox_snd]
  by_cases h1 : StoreOK s
  · rw [nite_tr _ _ h1]
    by_cases h2 : NameOK name
    · rw [nite_tr _ _ h2, if_pos (show StoreOK s ∧ NameOK name from ⟨h1, h2⟩)]
      by_cases h3 : (boxAt s name).isSome = true
      · rw [if_pos h3, if_pos h3]
      · rw [if_neg h3, if_neg h3]
        have h4 := h1.2.1
        have h5 := h1.2.2
        by_cases h6 : s.1.length = 4
        · rw [decide_eq_true (by omega), if_pos rfl, if_pos h6]
        · rw [decide_eq_false (by omega), if_neg (by simp), if_neg h6]
          by_cases h7 : s.2 = 9999
          · rw [decide_eq_true (by omega), if_pos rfl, if_pos h7]
          · rw [decide_eq_false (by omega), if_neg (by simp), if_neg h7, specNew_eq h2 (by omega)]
            simp only [Option.bind_some]
            have := makeL1_at hs (boxAt_none (by simpa using h3)) (newB name s.2, true) (by simp only [bound]; omega) s.1 [] [] (w64 (s.2 + 1)) rfl (by simp)
            rw [w64_id (by omega) (by omega)] at this
            rw [w64_id (by omega) (by omega)]
            unfold insB
            simpa using this
    · rw [nite_ntr _ _ h2, if_neg (show ¬ (StoreOK s ∧ NameOK name) from fun h => h2 h.2)]
  · rw [nite_ntr _ _ h1, if_neg (show ¬ (StoreOK s ∧ NameOK name) from fun h => h1 h.1)]
theorem filter_all {α : Type} {q : α → Bool} {l : List α} (h : ∀ x ∈ l, q x = true) : l.filter q = l := List.filter_eq_self.2 h
theorem filter_none {α : Type} {q : α → Bool} {l : List α} (h : ∀ x ∈ l, q x = false) : l.filter q = [] := List.filter_eq_nil_iff.2 fun x hx => by simp [h x hx]
theorem implMake_at {s : List Box × Int} (hs : StoreSmall s) (h1 : 1 ≤ s.1.length) (hb : s.1.length + 5 ≤ bound) (h2 : 2 ≤ s.2 ∧ s.2 ≤ 9999) (hp : s.1.Pairwise NameLt) {name : List UInt8} : ∀ (l pre : List Box), s.1 = pre ++ l → (∀ x ∈ pre, Op.bytesLess x.1 name = true) →
    impl_MakeBox_L1 name s (newB name s.2, true) (pre.length : Int) = some (insB s name, 0)
  | [], pre, h, hq => by
    have hp : ¬ (decide ((pre.length : Int) < (s.1.length : Int)) = true) := by rw [h]; simp
    rw [impl_MakeBox_L1_eq]; unfold impl_MakeBox_L1_B; dsimp only; rw [if_neg hp]
    simp at h
    unfold slices_Insert_impl_Box insertO
    rw [if_pos (show [(newB name s.2)].length = 1 ∧ 1 ≤ s.1.length from ⟨rfl, h1⟩), if_pos ⟨by omega, by rw [h]; omega, by simp; omega⟩]
    simp only [Option.bind_some]
    rw [w64_id (by omega) (by omega)]
    unfold insB
    rw [h, filter_all hq, filter_none fun x hx => by simp [hq x hx]]
    simp
  | r :: l, pre, h, hq => by
    have hlen := hs.len
    have hpl : pre.length < s.1.length := by rw [h]; simp
    have hr : s.1[pre.length]? = some r := by rw [h]; simp
    rw [impl_MakeBox_L1_eq]; unfold impl_MakeBox_L1_B; dsimp only
    rw [dlt hpl, if_pos rfl, reqO_pos (by omega), idxO_nat hr, show w64 ((pre.length : Int) + 1) = ((pre ++ [r]).length : Int) by rw [w64_id (by omega) (by omega)]; simp]
    by_cases k : Op.bytesLess r.1 name = true
    · rw [if_pos k]
      exact implMake_at hs h1 hb h2 hp l (pre ++ [r]) (by rw [h]; simp) fun x hx => by
        rcases List.mem_append.1 hx with e | e
        · exact hq x e
        · simp at e; subst e; exact k
    · rw [if_neg k]
      unfold slices_Insert_impl_Box insertO
      rw [if_pos (show [(newB name s.2)].length = 1 ∧ 1 ≤ s.1.length from ⟨rfl, h1⟩), if_pos ⟨by omega, by omega, by simp; omega⟩]
      simp only [Option.bind_some]
      rw [w64_id (by omega) (by omega)]
      unfold insB
      have hrest : ∀ x ∈ r :: l, Op.bytesLess x.1 name = false := fun x hx => by
        rcases List.mem_cons.1 hx with e | e
        · subst e; simpa using k
        · rw [h, List.pairwise_append] at hp
          have := (List.pairwise_cons.1 hp.2.1).1 x e
          cases c : Op.bytesLess x.1 name with
          | false => rfl
          | true => exact absurd (less_trans _ _ _ this c) k
      rw [h, List.filter_append, List.filter_append, filter_all hq, filter_none hrest, filter_none (q := fun b : Box => !Op.bytesLess b.1 name) fun x hx => by simp [hq x hx], filter_all (l := r :: l) fun x hx => by simp [hrest x hx]]
      simp
theorem implMake_eq {s : List Box × Int} (hs : StoreSmall s) {name : List UInt8} (hn : name.length < 1073741824) : impl_MakeBox s name = some (makeBox s name) := by
  unfold impl_MakeBox makeBox
  rw [copyStore_eq hs, implStoreOk_eq hs, implName_eq (by omega), implIdx_eq hs]
  simp only [Option.bind_some]
  have e : decide (0 ≤ idxF (fun b : Box => decide (b.1 = name)) s.1 0) = (boxAt s name).isSome := by
    rw [any_idxF]; unfold boxAt; rw [Bool.eq_iff_iff, List.find?_isSome, List.any_eq_true]
  rw [e]
  by_cases h1 : StoreOK s
  · rw [nite_tr _ _ h1]
    by_cases h2 : NameOK name
    · rw [nite_tr _ _ h2, if_pos (show StoreOK s ∧ NameOK name from ⟨h1, h2⟩)]
      by_cases h3 : (boxAt s name).isSome = true
      · rw [if_pos h3, if_pos h3]
      · rw [if_neg h3, if_neg h3]
        have h4 := h1.2.1
        have h5 := h1.2.2
        by_cases h6 : s.1.length = 4
        · rw [decide_eq_true (by omega), if_pos rfl, if_pos h6]
        · rw [decide_eq_false (by omega), if_neg (by simp), if_neg h6]
          by_cases h7 : s.2 = 9999
          · rw [decide_eq_true (by omega), if_pos rfl, if_pos h7]
          · rw [decide_eq_false (by omega), if_neg (by simp), if_neg h7, implNew_eq h2 (by omega)]
            exact implMake_at hs (by omega) (by simp only [bound]; omega) h5 ((storeOK_iff s).1 h1).2.1 s.1 [] rfl fun x hx => by cases hx
    · rw [nite_ntr _ _ h2, if_neg (show ¬ (StoreOK s ∧ NameOK name) from fun h => h2 h.2)]
  · rw [nite_ntr _ _ h1, if_neg (show ¬ (StoreOK s ∧ NameOK name) from fun h => h1 h.1)]
end Go.M
namespace Go.M
open Go.Ev Go.G
def inboxN : List UInt8 := [105, 110, 98, 111, 120]
open Classical in
noncomputable def dropBox (s : List Box × Int) (name : List UInt8) : (List Box × Int) × Int :=
  if StoreOK s ∧ name ≠ inboxN then (if (boxAt s name).isSome then (if s.1.filter (fun b => !decide (b.1 = name)) = [] then (s, 4) else ((s.1.filter (fun b => !decide (b.1 = name)), s.2), 0)) else (s, 1)) else (s, 4)
theorem drop_at {s : List Box × Int} (hs : StoreSmall s) {name : List UInt8} : ∀ (l pre acc : List Box) (n : Int), s.1 = pre ++ l → acc.length + l.length ≤ bound →
    spec_DropBox_L1 name s ((pre.length : Int), (acc, n)) = if acc ++ l.filter (fun b => !decide (b.1 = name)) = [] then some (s, 4) else some ((acc ++ l.filter (fun b => !decide (b.1 = name)), n), 0)
  | [], pre, acc, n, h, _ => by
    rw [spec_DropBox_L1_eq]; unfold spec_DropBox_L1_B; dsimp only; rw [if_neg (by rw [h]; simp)]
    rcases acc with _ | ⟨a, b⟩
    · simp
    · rw [decide_eq_false (by simp; omega), if_neg (by simp), if_neg (by simp)]; simp
  | r :: l, pre, acc, n, h, ha => by
    have hlen := hs.len
    have hp : pre.length < s.1.length := by rw [h]; simp
    have hr : s.1[pre.length]? = some r := by rw [h]; simp
    simp at ha
    rw [spec_DropBox_L1_eq]; unfold spec_DropBox_L1_B; dsimp only
    rw [dlt hp, if_pos rfl, reqO_pos (by omega), idxO_nat hr, show w64 ((pre.length : Int) + 1) = ((pre ++ [r]).length : Int) by rw [w64_id (by omega) (by omega)]; simp]
    by_cases k : r.1 = name
    · rw [decide_eq_true k, if_neg (by simp), drop_at hs l (pre ++ [r]) acc n (by rw [h]; simp) (by omega), List.filter_cons_of_neg (p := fun b : Box => !decide (b.1 = name)) (by simp [k])]
    · rw [decide_eq_false k, if_pos (show (!false) = true from rfl), reqO_pos (by omega), idxO_nat hr, reqO_pos (by simp; omega), drop_at hs l (pre ++ [r]) (acc ++ [r]) n (by rw [h]; simp) (by simp; omega), List.filter_cons_of_pos (p := fun b : Box => !decide (b.1 = name)) (by simp [k])]
      simp
theorem specDrop_eq {s : List Box × Int} (hs : StoreSmall s) (name : List UInt8) : spec_DropBox s name = some (dropBox s name) := by
  unfold spec_DropBox dropBox
  rw [l09Copy_eq hs, specStoreOk_eq hs, specAt_eq hs]
  simp only [Option.bind_some, optBox_snd]
  by_cases h1 : StoreOK s
  · rw [nite_tr _ _ h1]
    by_cases h2 : name = inboxN
    · rw [decide_eq_true (show name = [105, 110, 98, 111, 120] from h2), if_pos rfl, if_neg (show ¬ (StoreOK s ∧ name ≠ inboxN) from fun h => h.2 h2)]
    · rw [decide_eq_false (show ¬ name = [105, 110, 98, 111, 120] from h2), if_neg (by simp), if_pos (show StoreOK s ∧ name ≠ inboxN from ⟨h1, h2⟩)]
      by_cases h3 : (boxAt s name).isSome = true
      · have h4 := h1.2.1
        rw [h3, if_neg (by simp), if_pos rfl]
        have := drop_at hs (name := name) s.1 [] [] s.2 rfl (by simp [bound]; omega)
        rw [show (([] : List Box).length : Int) = 0 from rfl] at this
        rw [this, List.nil_append]
        split <;> rfl
      · rw [if_pos (by simpa using h3), if_neg h3]
  · rw [nite_ntr _ _ h1, if_neg (show ¬ (StoreOK s ∧ name ≠ inboxN) from fun h => h1 h.1)]
theorem dropBox_ok {s : List Box × Int} (h : StoreOK s) (name : List UInt8) : StoreOK (dropBox s name).1 ∧ ∀ b ∈ (dropBox s name).1.1, b ∈ s.1 := by
  unfold dropBox
  split
  · split
    · split
      · exact ⟨h, fun b hb => hb⟩
      · rename_i hne
        refine ⟨?_, fun b hb => (List.mem_filter.1 hb).1⟩
        rw [storeOK_iff] at h ⊢
        obtain ⟨h1, h2, h3, h4⟩ := h
        have := List.length_filter_le (fun b : Box => !decide (b.1 = name)) s.1
        refine ⟨fun b hb => h1 b (List.mem_filter.1 hb).1, h2.sublist List.filter_sublist, ⟨?_, by dsimp only; omega⟩, h4⟩
        rcases k : s.1.filter (fun b => !decide (b.1 = name)) with _ | ⟨x, y⟩
        · exact absurd k hne
        · dsimp only; rw [k]; simp
    · exact ⟨h, fun b hb => hb⟩
  · exact ⟨h, fun b hb => hb⟩
def Lex (a b : Int × Int) : Prop := a.2 < b.2 ∨ (a.2 = b.2 ∧ a.1 < b.1)
theorem boxOK_iff (b : Box) : BoxOK b ↔ NameOK b.1 ∧ (1 ≤ b.2.1 ∧ b.2.1 ≤ 9999) ∧ (1 ≤ b.2.2.1 ∧ b.2.2.1 ≤ 9999) ∧ (1 ≤ b.2.2.2.1 ∧ b.2.2.2.1 ≤ 100000) ∧ (0 ≤ b.2.2.2.2.2.2 ∧ b.2.2.2.2.2.2 ≤ b.2.2.2.1) ∧
    b.2.2.2.2.1.length ≤ 30 ∧ b.2.2.2.2.2.1.length ≤ 40 ∧
    (∀ m ∈ b.2.2.2.2.1, (1 ≤ m.1 ∧ m.1 ≤ b.2.2.1 - 1) ∧ FlagsOK m.2.1 ∧ (1 ≤ m.2.2.1 ∧ m.2.2.1 ≤ b.2.2.2.1) ∧ MailOK m.2.2.2) ∧ b.2.2.2.2.1.Pairwise (fun x y => x.1 < y.1) ∧
    (∀ t ∈ b.2.2.2.2.2.1, (1 ≤ t.1 ∧ t.1 ≤ b.2.2.1 - 1) ∧ (b.2.2.2.2.2.2 < t.2 ∧ t.2 ≤ b.2.2.2.1) ∧ ∀ m ∈ b.2.2.2.2.1, m.1 ≠ t.1) ∧ b.2.2.2.2.2.1.Pairwise (fun x y => x.1 ≠ y.1 ∧ Lex x y) := by
  constructor
  · intro ⟨a1, a2, a3, a4, a5, a6, a7, a8, a9⟩
    refine ⟨a1, a2, a3, a4, a5, a6, a7, fun m hm => ?_, ?_, fun t ht => ?_, ?_⟩
    · obtain ⟨i, hi, e⟩ := List.mem_iff_getElem.1 hm
      have := a8 i hi m (by rw [List.getElem?_eq_getElem hi, e])
      exact ⟨this.1, this.2.2⟩
    · exact pairwise_adj2 (R := fun x y : Mail => x.1 < y.1) (fun a b c h1 h2 => Int.lt_trans h1 h2) fun i h0 hi p r hp hr => (a8 i hi r hr).2.1 h0 p hp
    · obtain ⟨i, hi, e⟩ := List.mem_iff_getElem.1 ht
      have := a9 i hi t (by rw [List.getElem?_eq_getElem hi, e])
      refine ⟨this.1, this.2.1, fun m hm => ?_⟩
      obtain ⟨k, hk, e'⟩ := List.mem_iff_getElem.1 hm
      exact this.2.2.1 k hk m (by rw [List.getElem?_eq_getElem hk, e'])
    · have l : b.2.2.2.2.2.1.Pairwise Lex := pairwise_adj2 (R := Lex) (fun a b c h1 h2 => by unfold Lex at *; omega) fun i h0 hi p r hp hr => (a9 i hi r hr).2.2.2.2 h0 p hp
      rw [List.pairwise_iff_getElem] at l ⊢
      intro i j hi hj hij
      refine ⟨?_, l i j hi hj hij⟩
      exact (a9 j hj _ (List.getElem?_eq_getElem hj)).2.2.2.1 i hij _ (List.getElem?_eq_getElem hi)
  · intro ⟨a1, a2, a3, a4, a5, a6, a7, a8, a8', a9, a9'⟩
    rw [List.pairwise_iff_getElem] at a8' a9'
    refine ⟨a1, a2, a3, a4, a5, a6, a7, fun i hi r hr => ?_, fun i hi r hr => ?_⟩
    · have := a8 r (List.mem_of_getElem? hr)
      refine ⟨this.1, fun h0 p hp => ?_, this.2⟩
      have := a8' (i - 1) i (by omega) hi (by omega)
      rw [List.getElem?_eq_getElem (by omega)] at hp hr
      cases hp; cases hr
      exact this
    · have := a9 r (List.mem_of_getElem? hr)
      refine ⟨this.1, this.2.1, fun k hk m hm => this.2.2 m (List.mem_of_getElem? hm), fun k hk x hx => ?_, fun h0 p hp => ?_⟩
      · have := a9' k i (by omega) hi hk
        rw [List.getElem?_eq_getElem (by omega)] at hx hr
        cases hx; cases hr
        exact this.1
      · have := a9' (i - 1) i (by omega) hi (by omega)
        rw [List.getElem?_eq_getElem (by omega)] at hp hr
        cases hp; cases hr
        exact this.2
def forgetB (b : Box) (upto : Int) : Box := (b.1, b.2.1, b.2.2.1, b.2.2.2.1, b.2.2.2.2.1, b.2.2.2.2.2.1.filter (fun t => decide (upto < t.2)), if b.2.2.2.2.2.2 < upto then upto else b.2.2.2.2.2.2)
open Classical in
noncomputable def forget (b : Box) (upto : Int) : Box := if BoxOK b ∧ 0 ≤ upto ∧ upto ≤ b.2.2.2.1 then forgetB b upto else b
theorem forgetB_ok {b : Box} (h : BoxOK b) {upto : Int} (hu : 0 ≤ upto ∧ upto ≤ b.2.2.2.1) : BoxOK (forgetB b upto) := by
  rw [boxOK_iff] at h ⊢
  obtain ⟨a1, a2, a3, a4, a5, a6, a7, a8, a8', a9, a9'⟩ := h
  have := List.length_filter_le (fun t : Int × Int => decide (upto < t.2)) b.2.2.2.2.2.1
  refine ⟨a1, a2, a3, a4, ?_, a6, Nat.le_trans this a7, a8, a8', fun t ht => ?_, a9'.sublist List.filter_sublist⟩
  · unfold forgetB; dsimp only; split <;> omega
  · obtain ⟨k1, k2⟩ := List.mem_filter.1 ht
    have := a9 t k1
    simp at k2
    refine ⟨this.1, ?_, this.2.2⟩
    unfold forgetB; dsimp only; split <;> omega
theorem forget_at {b : Box} (hb : BoxSmall b) (upto : Int) : ∀ (l pre acc : List (Int × Int)), b.2.2.2.2.2.1 = pre ++ l → acc.length + l.length ≤ bound →
    spec_ForgetTombs_L1 b upto ((pre.length : Int), (b.1, b.2.1, b.2.2.1, b.2.2.2.1, b.2.2.2.2.1, acc, b.2.2.2.2.2.2)) = some (b.1, b.2.1, b.2.2.1, b.2.2.2.1, b.2.2.2.2.1, acc ++ l.filter (fun t => decide (upto < t.2)), if b.2.2.2.2.2.2 < upto then upto else b.2.2.2.2.2.2)
  | [], pre, acc, h, _ => by
    rw [spec_ForgetTombs_L1_eq]; unfold spec_ForgetTombs_L1_B; dsimp only; rw [if_neg (by rw [h]; simp)]
    by_cases c : b.2.2.2.2.2.2 < upto
    · simp [c]
    · simp [c]
  | r :: l, pre, acc, h, ha => by
    have hlen := hb.tombs
    have hp : pre.length < b.2.2.2.2.2.1.length := by rw [h]; simp
    have hr : b.2.2.2.2.2.1[pre.length]? = some r := by rw [h]; simp
    simp at ha
    rw [spec_ForgetTombs_L1_eq]; unfold spec_ForgetTombs_L1_B; dsimp only
    rw [dlt hp, if_pos rfl, idxO_nat hr, show w64 ((pre.length : Int) + 1) = ((pre ++ [r]).length : Int) by rw [w64_id (by omega) (by omega)]; simp]
    by_cases k : upto < r.2
    · rw [decide_eq_true k, if_pos rfl, idxO_nat hr, reqO_pos (by simp; omega), forget_at hb upto l (pre ++ [r]) (acc ++ [r]) (by rw [h]; simp) (by simp; omega), List.filter_cons_of_pos (p := fun t : Int × Int => decide (upto < t.2)) (by simp [k])]
      simp
    · rw [decide_eq_false k, if_neg (by simp), forget_at hb upto l (pre ++ [r]) acc (by rw [h]; simp) (by omega), List.filter_cons_of_neg (p := fun t : Int × Int => decide (upto < t.2)) (by simp [k])]
theorem specForget_eq {b : Box} (hb : BoxSmall b) (upto : Int) : spec_ForgetTombs b upto = some (forget b upto) := by
  unfold spec_ForgetTombs forget
  rw [l08Copy_eq hb, specBoxOk_eq hb, l01In_eq]
  simp only [Option.bind_some, tr_dec]
  by_cases h1 : BoxOK b
  · rw [nite_tr _ _ h1]
    by_cases h2 : 0 ≤ upto ∧ upto ≤ b.2.2.2.1
    · rw [nite_tr _ _ h2, if_pos (show BoxOK b ∧ 0 ≤ upto ∧ upto ≤ b.2.2.2.1 from ⟨h1, h2⟩)]
      exact forget_at hb upto b.2.2.2.2.2.1 [] [] rfl (by have := hb.tombs; simp [bound]; omega)
    · rw [nite_ntr _ _ h2, if_neg fun h => h2 h.2]
  · rw [nite_ntr _ _ h1, if_neg fun h => h1 h.1]
noncomputable def copyRun (S : List (Int × Int)) : List Mail → Box → Option Box
  | [], d => some d
  | m :: l, d => if has S m.1 = true then (if (addMail d m.2.1 m.2.2.2).2 = 0 then none else copyRun S l (addMail d m.2.1 m.2.2.2).1) else copyRun S l d
open Classical in
noncomputable def copyMails (s : List Box × Int) (src : List UInt8) (S : List (Int × Int)) (dst : List UInt8) : (List Box × Int) × Int :=
  if StoreOK s ∧ SetOK S then
    (match boxAt s src, boxAt s dst with
     | some f, some t => (match copyRun S f.2.2.2.2.1 t with | some d => (putBox s d, 0) | none => (s, 3))
     | _, _ => (s, 1))
  else (s, 4)
theorem addMail_ok {b : Box} (h : BoxOK b) (f : Int) (t : List UInt8) : BoxOK (addMail b f t).1 ∧ (addMail b f t).1.1 = b.1 ∧ (addMail b f t).1.2.1 = b.2.1 := by
  unfold addMail
  split
  · rename_i k; exact ⟨k.2, rfl, rfl⟩
  · exact ⟨h, rfl, rfl⟩
theorem copyRun_ok (S : List (Int × Int)) : ∀ (l : List Mail) (d e : Box), BoxOK d → copyRun S l d = some e → BoxOK e ∧ e.1 = d.1 ∧ e.2.1 = d.2.1 ∧ e.2.2.2.2.1.length = d.2.2.2.2.1.length + (l.filter fun m => has S m.1).length
  | [], d, e, h, k => by cases k; exact ⟨h, rfl, rfl, rfl⟩
  | m :: l, d, e, h, k => by
    unfold copyRun at k
    split at k
    · rename_i hm
      split at k
      · cases k
      · rename_i hc
        have a := addMail_ok h m.2.1 m.2.2.2
        have ih := copyRun_ok S l _ e a.1 k
        refine ⟨ih.1, by rw [ih.2.1, a.2.1], by rw [ih.2.2.1, a.2.2], ?_⟩
        rw [ih.2.2.2, List.filter_cons_of_pos (p := fun m : Mail => has S m.1) hm]
        have : (addMail d m.2.1 m.2.2.2).1 = addB d m.2.1 m.2.2.2 := by
          unfold addMail at hc ⊢
          split
          · rfl
          · rename_i hh; rw [if_neg hh] at hc; exact absurd rfl hc
        rw [this]
        unfold addB; simp; omega
    · rename_i hm
      have ih := copyRun_ok S l d e h k
      refine ⟨ih.1, ih.2.1, ih.2.2.1, ?_⟩
      rw [ih.2.2.2, List.filter_cons_of_neg (p := fun m : Mail => has S m.1) hm]
theorem specCopy_at {s : List Box × Int} {S : List (Int × Int)} (hs : StoreSmall s) (hS : S.length < 1073741824) (y1 : Box × Bool) (hy : BoxSmall y1.1) : ∀ (l pre : List Mail) (d : Box), y1.1.2.2.2.2.1 = pre ++ l → BoxOK d →
    spec_CopyMails_L1 s S s y1 ((pre.length : Int), ([], 0), d) = match copyRun S l d with | some e => some (putBox s e, 0) | none => some (s, 3)
  | [], pre, d, h, hd => by
    rw [spec_CopyMails_L1_eq]; unfold spec_CopyMails_L1_B; dsimp only; rw [if_neg (by rw [h]; simp), specPut_eq hs hd.small]; rfl
  | r :: l, pre, d, h, hd => by
    have hlen := hy.mails
    have hp : pre.length < y1.1.2.2.2.2.1.length := by rw [h]; simp
    have hr : y1.1.2.2.2.2.1[pre.length]? = some r := by rw [h]; simp
    have ht := hy.text r (by rw [h]; simp)
    have a := addMail_ok hd r.2.1 r.2.2.2
    rw [spec_CopyMails_L1_eq]; unfold spec_CopyMails_L1_B copyRun; dsimp only
    rw [dlt hp, if_pos rfl, reqO_pos (by omega), idxO_nat hr, specHas_eq _ (by omega), show w64 ((pre.length : Int) + 1) = ((pre ++ [r]).length : Int) by rw [w64_id (by omega) (by omega)]; simp]
    simp only [Option.bind_some]
    by_cases k : has S r.1 = true
    · rw [k, if_neg (by simp), if_pos rfl, reqO_pos (by omega), idxO_nat hr, reqO_pos (by omega), idxO_nat hr, specAdd_eq hd.small _ ht]
      simp only [Option.bind_some]
      by_cases c : (addMail d r.2.1 r.2.2.2).2 = 0
      · rw [decide_eq_true c, if_pos rfl, if_pos c]
      · rw [decide_eq_false c, if_neg (by simp), if_neg c]
        exact specCopy_at hs hS y1 hy l (pre ++ [r]) _ (by rw [h]; simp) a.1
    · rw [if_pos (by simpa using k), if_neg k]
      exact specCopy_at hs hS y1 hy l (pre ++ [r]) d (by rw [h]; simp) hd
theorem implCopy_at {s : List Box × Int} {S : List (Int × Int)} (hs : StoreSmall s) (hS : S.length < 1073741824) (y1 : Box × Bool) (hy : BoxSmall y1.1) : ∀ (l pre : List Mail) (d : Box), y1.1.2.2.2.2.1 = pre ++ l → BoxOK d →
    impl_CopyMails_L1 s S y1 ((pre.length : Int), ([], 0), d) = match copyRun S l d with | some e => some (putBox s e, 0) | none => some (s, 3)
  | [], pre, d, h, hd => by
    rw [impl_CopyMails_L1_eq]; unfold impl_CopyMails_L1_B; dsimp only; rw [if_neg (by rw [h]; simp), implPut_eq hs hd.small]; rfl
  | r :: l, pre, d, h, hd => by
    have hlen := hy.mails
    have hp : pre.length < y1.1.2.2.2.2.1.length := by rw [h]; simp
    have hr : y1.1.2.2.2.2.1[pre.length]? = some r := by rw [h]; simp
    have ht := hy.text r (by rw [h]; simp)
    have a := addMail_ok hd r.2.1 r.2.2.2
    rw [impl_CopyMails_L1_eq]; unfold impl_CopyMails_L1_B copyRun; dsimp only
    rw [dlt hp, if_pos rfl, reqO_pos (by omega), idxO_nat hr, implHas_eq _ (by omega), show w64 ((pre.length : Int) + 1) = ((pre ++ [r]).length : Int) by rw [w64_id (by omega) (by omega)]; simp]
    simp only [Option.bind_some]
    by_cases k : has S r.1 = true
    · rw [k, if_neg (by simp), if_pos rfl, implAdd_eq hd.small _ ht, copyStore_eq hs]
      simp only [Option.bind_some]
      by_cases c : (addMail d r.2.1 r.2.2.2).2 = 0
      · rw [decide_eq_true c, if_pos rfl, if_pos c]
      · rw [decide_eq_false c, if_neg (by simp), if_neg c]
        exact implCopy_at hs hS y1 hy l (pre ++ [r]) _ (by rw [h]; simp) a.1
    · rw [if_pos (by simpa using k), if_neg k]
      exact implCopy_at hs hS y1 hy l (pre ++ [r]) d (by rw [h]; simp) hd
theorem specCopy_eq {s : List Box × Int} {S : List (Int × Int)} (hs : StoreSmall s) (hS : S.length < 1073741824) (src dst : List UInt8) : spec_CopyMails s src S dst = some (copyMails s src S dst) := by
  unfold spec_CopyMails copyMails
  rw [l09Copy_eq hs, specStoreOk_eq hs, specSetOk_eq (by omega), specAt_eq hs, specAt_eq hs]
  simp only [Option.bind_some, tr_dec]
  by_cases h1 : StoreOK s
  · rw [nite_tr _ _ h1]
    by_cases h2 : SetOK S
    · rw [nite_tr _ _ h2, if_pos (show StoreOK s ∧ SetOK S from ⟨h1, h2⟩)]
      rcases k1 : boxAt s src with _ | f
      · rfl
      · rcases k2 : boxAt s dst with _ | t
        · rfl
        · have b1 := h1.box f (boxAt_some k1).1
          have b2 := h1.box t (boxAt_some k2).1
          have := specCopy_at hs hS (optBox (some f)) b1.small f.2.2.2.2.1 [] t rfl b2
          dsimp only
          rw [if_neg (by simp [optBox]), if_neg (by simp [optBox])]
          refine Eq.trans this ?_
          split <;> rfl
    · rw [nite_ntr _ _ h2, if_neg (show ¬ (StoreOK s ∧ SetOK S) from fun h => h2 h.2)]
  · rw [nite_ntr _ _ h1, if_neg (show ¬ (StoreOK s ∧ SetOK S) from fun h => h1 h.1)]
theorem implCopy_eq {s : List Box × Int} {S : List (Int × Int)} (hs : StoreSmall s) (hS : S.length < 1073741824) (src dst : List UInt8) : impl_CopyMails s src S dst = some (copyMails s src S dst) := by
  unfold impl_CopyMails copyMails
  rw [copyStore_eq hs, implStoreOk_eq hs, implSetOk_eq (by omega), implAt_eq hs, implAt_eq hs]
  simp only [Option.bind_some, tr_dec]
  by_cases h1 : StoreOK s
  · rw [nite_tr _ _ h1]
    by_cases h2 : SetOK S
    · rw [nite_tr _ _ h2, if_pos (show StoreOK s ∧ SetOK S from ⟨h1, h2⟩)]
      rcases k1 : boxAt s src with _ | f
      · rfl
      · rcases k2 : boxAt s dst with _ | t
        · rfl
        · have b1 := h1.box f (boxAt_some k1).1
          have b2 := h1.box t (boxAt_some k2).1
          have := implCopy_at hs hS (optBox (some f)) b1.small f.2.2.2.2.1 [] t rfl b2
          dsimp only
          rw [if_neg (by simp [optBox]), if_neg (by simp [optBox])]
          refine Eq.trans this ?_
          split <;> rfl
    · rw [nite_ntr _ _ h2, if_neg (show ¬ (StoreOK s ∧ SetOK S) from fun h => h2 h.2)]
  · rw [nite_ntr _ _ h1, if_neg (show ¬ (StoreOK s ∧ SetOK S) from fun h => h1 h.1)]
end Go.M
namespace Go.M
open Go.Ev Go.G
theorem setFlags_ok (S : List (Int × Int)) (how bits since : Int) {b : Box} (h : BoxOK b) : BoxOK (setFlags S how bits since b).1 ∧ (setFlags S how bits since b).1.1 = b.1 ∧ (setFlags S how bits since b).1.2.1 = b.2.1 ∧ uids (setFlags S how bits since b).1.2.2.2.2.1 = uids b.2.2.2.2.1 := by
  unfold setFlags
  split
  · rename_i k
    refine ⟨k.2.2.2.2, rfl, rfl, ?_⟩
    unfold setFlagsB uids
    dsimp only
    rw [List.map_map]
    refine List.map_congr_left fun m _ => ?_
    show (updM S how bits since _ m).1 = m.1
    unfold updM
    split <;> rfl
  · exact ⟨h, rfl, rfl, rfl⟩
theorem expunge_ok (S : List (Int × Int)) {b : Box} (h : BoxOK b) : BoxOK (expunge S b).1 ∧ (expunge S b).1.1 = b.1 ∧ (expunge S b).1.2.1 = b.2.1 := by
  unfold expunge
  split
  · rename_i k; exact ⟨k.2.2.2, rfl, rfl⟩
  · exact ⟨h, rfl, rfl⟩
def inSet (S : List (Int × Int)) (m : Mail) : Bool := has S m.1
theorem count_lem {α : Type} {p q : α → Bool} (hpq : ∀ x, p x = true → q x = true) : ∀ l : List α, (l.filter p).length ≤ (l.filter q).length ∧ ((l.filter p).length = (l.filter q).length ↔ (l.filter fun x => !p x).any q = false)
  | [] => by simp
  | x :: l => by
    obtain ⟨h1, h2⟩ := count_lem hpq l
    rcases hp : p x with _ | _
    · rcases hq : q x with _ | _
      · simp only [List.filter_cons, hp, hq]
        simp only [Bool.not_false, if_true, Bool.false_eq_true, if_false, List.any_cons, hq, Bool.false_or]
        exact ⟨h1, h2⟩
      · simp only [List.filter_cons, hp, hq]
        refine ⟨by simp; omega, ?_⟩
        simp [hq]; omega
    · have hq := hpq x hp
      simp only [List.filter_cons, hp, hq]
      refine ⟨by simp; omega, ?_⟩
      simp
      simpa using h2
theorem expunge_size {S : List (Int × Int)} {b : Box} (h : BoxOK b) : SetOK (expunge S b).2 ∧ (size (expunge S b).2 = ((b.2.2.2.2.1.filter (inSet S)).length : Int) ↔ (expunge S b).1.2.2.2.2.1.any (inSet S) = false) := by
  have h30 := h.2.2.2.2.2.1
  have hg := setOf_grow (h.grow.sub (uids_sub (isGone S) b.2.2.2.2.1))
  have lg := List.length_filter_le (isGone S) b.2.2.2.2.1
  unfold expunge
  split
  · rename_i k
    have hl := hg.len
    have hu : (uids (b.2.2.2.2.1.filter (isGone S))).length = (b.2.2.2.2.1.filter (isGone S)).length := by simp [uids]
    refine ⟨⟨hg.chain, by show (setOf (uids (b.2.2.2.2.1.filter (isGone S)))).length ≤ 40; omega⟩, ?_⟩
    dsimp only
    rw [hg.size]
    have c := (count_lem (p := isGone S) (q := inSet S) (fun x hx => by unfold isGone at hx; rw [Bool.and_eq_true] at hx; exact hx.1) b.2.2.2.2.1).2
    unfold uids
    rw [List.length_map]
    show _ ↔ (b.2.2.2.2.1.filter (stays S)).any (inSet S) = false
    refine Iff.trans ?_ c
    omega
  · refine ⟨⟨trivial, by simp⟩, ?_⟩
    show (0 : Int) = _ ↔ b.2.2.2.2.1.any (inSet S) = false
    rw [List.any_eq_false]
    constructor
    · intro e m hm hi
      have : m ∈ b.2.2.2.2.1.filter (inSet S) := List.mem_filter.2 ⟨hm, hi⟩
      rw [List.eq_nil_of_length_eq_zero (l := b.2.2.2.2.1.filter (inSet S)) (by omega)] at this
      cases this
    · intro e
      rw [filter_none (q := inSet S) fun x hx => by simpa using e x hx]; rfl
theorem filter_uids (S : List (Int × Int)) {l l' : List Mail} (h : uids l = uids l') : (l.filter (inSet S)).length = (l'.filter (inSet S)).length := by
  have e : ∀ k : List Mail, (k.filter (inSet S)).length = ((uids k).filter fun u => has S u).length := fun k => by
    unfold uids; rw [List.filter_map, List.length_map]; rfl
  rw [e, e, h]
open Classical in
noncomputable def moveMails (s : List Box × Int) (src : List UInt8) (S : List (Int × Int)) (dst : List UInt8) : (List Box × Int) × Int :=
  if StoreOK s ∧ SetOK S ∧ src ≠ dst then
    (if (copyMails s src S dst).2 = 0 then
      (match boxAt (copyMails s src S dst).1 src with
       | some f => if (expunge S (setFlags S 2 8 (-1) f).1).1.2.2.2.2.1.any (inSet S) = true then (s, 3) else (putBox (copyMails s src S dst).1 (expunge S (setFlags S 2 8 (-1) f).1).1, 0)
       | none => (s, 4))
     else (s, (copyMails s src S dst).2))
  else (s, 4)
structure Copied (s : List Box × Int) (src : List UInt8) (S : List (Int × Int)) (dst : List UInt8) (f t d : Box) : Prop where
  ok : StoreOK s
  set : SetOK S
  hsrc : boxAt s src = some f
  hdst : boxAt s dst = some t
  run : copyRun S f.2.2.2.2.1 t = some d
  eq : (copyMails s src S dst).1 = putBox s d
theorem copyMails_zero {s : List Box × Int} {src : List UInt8} {S : List (Int × Int)} {dst : List UInt8} (h : (copyMails s src S dst).2 = 0) : ∃ f t d, Copied s src S dst f t d := by
  by_cases h1 : StoreOK s ∧ SetOK S
  · have e : copyMails s src S dst = match boxAt s src, boxAt s dst with
     | some f, some t => (match copyRun S f.2.2.2.2.1 t with | some d => (putBox s d, 0) | none => (s, 3))
     | _, _ => (s, 1) := by unfold copyMails; exact if_pos h1
    rw [e] at h
    rcases k1 : boxAt s src with _ | f
    · rw [k1] at h; simp at h
    · rcases k2 : boxAt s dst with _ | t
      · rw [k1, k2] at h; simp at h
      · rcases k3 : copyRun S f.2.2.2.2.1 t with _ | d
        · rw [k1, k2] at h; dsimp only at h; rw [k3] at h; simp at h
        · exact ⟨f, t, d, h1.1, h1.2, k1, k2, k3, by rw [e, k1, k2]; dsimp only; rw [k3]⟩
  · unfold copyMails at h
    rw [if_neg h1] at h; simp at h
theorem Copied.facts {s : List Box × Int} {src : List UInt8} {S : List (Int × Int)} {dst : List UInt8} {f t d : Box} (c : Copied s src S dst f t d) :
    BoxOK f ∧ BoxOK t ∧ BoxOK d ∧ f.1 = src ∧ t.1 = dst ∧ d.1 = dst ∧ StoreOK (copyMails s src S dst).1 ∧ f.2.1 < s.2 ∧ d.2.2.2.2.1.length = t.2.2.2.2.1.length + (f.2.2.2.2.1.filter (inSet S)).length := by
  have f1 := boxAt_some c.hsrc
  have t1 := boxAt_some c.hdst
  have bf := c.ok.box f f1.1
  have bt := c.ok.box t t1.1
  have r := copyRun_ok S _ _ _ bt c.run
  have v := ((storeOK_iff s).1 c.ok).1
  refine ⟨bf, bt, r.1, f1.2, t1.2, by rw [r.2.1, t1.2], ?_, (v f f1.1).2, r.2.2.2⟩
  rw [c.eq]
  exact putBox_ok c.ok r.1 (by rw [r.2.2.1]; exact (v t t1.1).2)
theorem want_at {S : List (Int × Int)} {y : List Box × Int} {y1 : (List Box × Int) × Int} {y2 : Box × Bool} (hy : BoxOK y2.1) (hS : S.length < 1073741824) : ∀ (l pre : List Mail), y2.1.2.2.2.2.1 = pre ++ l →
    spec_MoveMails_L1 S y y1 y2 (((pre.filter (inSet S)).length : Int), (pre.length : Int)) = spec_MoveMails_L1 S y y1 y2 (((y2.1.2.2.2.2.1.filter (inSet S)).length : Int), (y2.1.2.2.2.2.1.length : Int))
  | [], pre, h => by rw [h]; simp
  | r :: l, pre, h => by
    have hlen := hy.2.2.2.2.2.1
    have hp : pre.length < y2.1.2.2.2.2.1.length := by rw [h]; simp
    have hr : y2.1.2.2.2.2.1[pre.length]? = some r := by rw [h]; simp
    have lf := List.length_filter_le (inSet S) pre
    have ih := want_at (y := y) (y1 := y1) hy hS l (pre ++ [r]) (by rw [h]; simp)
    rw [filter_snoc] at ih
    conv => lhs; rw [spec_MoveMails_L1_eq]; unfold spec_MoveMails_L1_B
    dsimp only
    rw [dlt hp, if_pos rfl, reqO_pos (by omega), idxO_nat hr, specHas_eq _ (by omega), show w64 ((pre.length : Int) + 1) = ((pre ++ [r]).length : Int) by rw [w64_id (by omega) (by omega)]; simp]
    simp only [Option.bind_some]
    by_cases k : has S r.1 = true
    · have k' : inSet S r = true := k
      rw [if_pos k'] at ih
      rw [if_pos k, ← ih, w64_id (by omega) (by omega)]; simp
    · have k' : ¬ inSet S r = true := k
      rw [if_neg k'] at ih
      rw [if_neg k, ih]
theorem specMove_eq {s : List Box × Int} {S : List (Int × Int)} (hs : StoreSmall s) (hS : S.length < 1073741824) (src dst : List UInt8) : spec_MoveMails s src S dst = some (moveMails s src S dst) := by
  unfold spec_MoveMails moveMails
  rw [l09Copy_eq hs, specCopy_eq hs hS]
  simp only [Option.bind_some]
  by_cases h1 : src = dst
  · rw [decide_eq_true h1, if_pos rfl, if_neg fun h => h.2.2 h1]
  · rw [decide_eq_false h1, if_neg (by simp)]
    by_cases h2 : StoreOK s ∧ SetOK S
    · rw [if_pos (show StoreOK s ∧ SetOK S ∧ src ≠ dst from ⟨h2.1, h2.2, h1⟩)]
      by_cases h3 : (copyMails s src S dst).2 = 0
      · rw [decide_eq_true h3, if_neg (by simp), if_pos h3]
        obtain ⟨f, t, d, c⟩ := copyMails_zero h3
        obtain ⟨bf, bt, bd, ef, et, ed, okc, vf, dl⟩ := c.facts
        have hf : boxAt (copyMails s src S dst).1 src = some f := by rw [c.eq, boxAt_put_ne (by rw [ed]; exact fun e => h1 e.symm), c.hsrc]
        rw [specAt_eq okc.small, hf]
        simp only [Option.bind_some]
        have w := want_at (S := S) (y := s) (y1 := copyMails s src S dst) (y2 := optBox (some f)) bf hS f.2.2.2.2.1 [] rfl
        refine Eq.trans w ?_
        rw [spec_MoveMails_L1_eq]
        unfold spec_MoveMails_L1_B
        have sf := setFlags_ok S 2 8 (-1) bf
        have xo := expunge_ok S sf.1
        have xs := expunge_size (S := S) sf.1
        rw [filter_uids S sf.2.2.2] at xs
        have l30 := bf.2.2.2.2.2.1
        dsimp only [optBox]
        simp only [Int.lt_irrefl, decide_false, Bool.false_eq_true, if_false]
        rw [specSetFlags_eq S 2 8 (-1) bf.small hS]
        simp only [Option.bind_some]
        rw [specExp_eq S sf.1.small hS]
        simp only [Option.bind_some]
        rw [specSize_eq xs.1, specPut_eq okc.small xo.1.small]
        simp only [Option.bind_some]
        by_cases k : (expunge S (setFlags S 2 8 (-1) f).1).1.2.2.2.2.1.any (inSet S) = true
        · have hd : ¬ (size (expunge S (setFlags S 2 8 (-1) f).1).2 = ((f.2.2.2.2.1.filter (inSet S)).length : Int)) := fun e => by rw [xs.2.1 e] at k; cases k
          simp only [hd, k, decide_false, Bool.not_false, if_true]
        · have hd := xs.2.2 (by simpa using k)
          simp only [hd, k, decide_true, Bool.not_true, if_false, Bool.false_eq_true]
      · rw [decide_eq_false h3, if_pos (show (!false) = true from rfl), if_neg h3]
    · have e : copyMails s src S dst = (s, 4) := by unfold copyMails; rw [if_neg h2]
      rw [e, if_pos (show (!decide ((4 : Int) = 0)) = true by decide), if_neg fun h => h2 ⟨h.1, h.2.1⟩]
theorem implMove_eq {s : List Box × Int} {S : List (Int × Int)} (hs : StoreSmall s) (hS : S.length < 1073741824) (src dst : List UInt8) : impl_MoveMails s src S dst = some (moveMails s src S dst) := by
  unfold impl_MoveMails moveMails
  rw [copyStore_eq hs, implStoreOk_eq hs, implSetOk_eq (by omega), implCopy_eq hs hS]
  simp only [Option.bind_some, tr_dec]
  by_cases h0 : StoreOK s
  · rw [nite_tr _ _ h0]
    by_cases h2 : SetOK S
    · rw [nite_tr _ _ h2]
      by_cases h1 : src = dst
      · rw [tr_yes h1, if_pos rfl, if_neg fun h => h.2.2 h1]
      · rw [tr_no h1, if_neg (by simp), if_pos (show StoreOK s ∧ SetOK S ∧ src ≠ dst from ⟨h0, h2, h1⟩)]
        by_cases h3 : (copyMails s src S dst).2 = 0
        · rw [tr_yes h3, if_neg (by simp), if_pos h3]
          obtain ⟨f, t, d, c⟩ := copyMails_zero h3
          obtain ⟨bf, bt, bd, ef, et, ed, okc, vf, dl⟩ := c.facts
          have hf : boxAt (copyMails s src S dst).1 src = some f := by rw [c.eq, boxAt_put_ne (by rw [ed]; exact fun e => h1 e.symm), c.hsrc]
          have sf := setFlags_ok S 2 8 (-1) bf
          have xo := expunge_ok S sf.1
          have l30 := xo.1.2.2.2.2.2.1
          rw [implAt_eq okc.small, hf]
          simp only [Option.bind_some, optBox]
          rw [implSetFlags_eq S 2 8 (-1) bf.small hS]
          simp only [Option.bind_some]
          rw [implExp_eq S sf.1.small hS]
          simp only [Option.bind_some]
          rw [containsMail (q := inSet S) (fun x _ => by rw [predO_fn]; unfold impl_MoveMails_c1; rw [implHas_eq _ (by omega)]; rfl) (by omega), implPut_eq okc.small xo.1.small]
          simp only [Option.bind_some]
          split <;> rfl
        · rw [tr_no h3, if_pos (show (!false) = true from rfl), if_neg h3]
    · rw [nite_ntr _ _ h2, if_neg fun h => h2 h.2.1]
  · rw [nite_ntr _ _ h0, if_neg fun h => h0 h.1]
end Go.M
namespace Go.M
open Go.Ev Go.G
theorem andI_255 (x : Int) : 0 ≤ andI .i64 x 255 ∧ andI .i64 x 255 ≤ 255 := by
  have h : (BitVec.ofInt 64 x &&& BitVec.ofInt 64 255).toNat ≤ 255 := by
    rw [BitVec.toNat_and]
    exact Nat.and_le_right
  have e : andI .i64 x 255 = w64 ((BitVec.ofInt 64 x &&& BitVec.ofInt 64 255).toNat : Int) := rfl
  rw [e, w64_id (by omega) (by omega)]
  omega
def CurOK (c : L01Cur) : Prop := 0 ≤ c.2.1 ∧ c.1.length ≤ 1048576
theorem byte_ok {c : L01Cur} (h : CurOK c) : ∃ v c', spec_l01Byte c = some (v, c') ∧ (0 ≤ v ∧ v ≤ 255) ∧ CurOK c' := by
  unfold spec_l01Byte
  rw [reqO_pos (by omega), reqO_pos (by omega)]
  by_cases k : c.2.1 < (c.1.length : Int)
  · rw [decide_eq_true k, if_pos rfl]
    obtain ⟨i, hi⟩ := Int.eq_ofNat_of_zero_le h.1
    have hl : i < c.1.length := by omega
    obtain ⟨r, hr⟩ := get_of hl
    have hlen := h.2
    rw [hi, idxO_nat hr]
    refine ⟨_, _, rfl, andI_255 _, ⟨?_, h.2⟩⟩
    show 0 ≤ w64 ((i : Int) + 1)
    rw [w64_id (by omega) (by omega)]; omega
  · rw [decide_eq_false k, if_neg (by simp)]
    exact ⟨_, _, rfl, andI_255 _, h⟩
theorem below_ok {c : L01Cur} (h : CurOK c) {n : Int} (h1 : 1 ≤ n) (h2 : n ≤ 256) : ∃ v c', spec_l01Below c n = some (v, c') ∧ (0 ≤ v ∧ v < n) ∧ CurOK c' := by
  unfold spec_l01Below
  obtain ⟨v, c', e, hv, hc⟩ := byte_ok h
  rw [decide_eq_false (by omega), if_neg (by simp), decide_eq_true h2, if_pos rfl, e]
  simp only [Option.bind_some]
  rw [reqO_pos (by omega)]
  exact ⟨_, _, rfl, ⟨Int.tmod_nonneg _ hv.1, Int.tmod_lt_of_pos _ (by omega)⟩, hc⟩
theorem once_ok {c : L01Cur} (h : CurOK c) {n : Int} (h1 : 1 ≤ n) (h2 : n ≤ 256) : ∃ v c', spec_l01Once c n = some (v, c') ∧ CurOK c' := by
  obtain ⟨v, c', e, _, hc⟩ := below_ok h h1 h2
  unfold spec_l01Once
  rw [e]
  exact ⟨_, _, rfl, hc⟩
theorem pickInt_ok {c : L01Cur} (h : CurOK c) {l : List Int} (h1 : 1 ≤ l.length) (h2 : l.length ≤ 256) : ∃ v c', spec_l01PickInt c l = some (v, c') ∧ v ∈ l ∧ CurOK c' := by
  obtain ⟨v, c', e, hv, hc⟩ := below_ok h (n := (l.length : Int)) (by omega) (by omega)
  unfold spec_l01PickInt
  rw [e]
  obtain ⟨i, hi⟩ := Int.eq_ofNat_of_zero_le hv.1
  obtain ⟨r, hr⟩ := get_of (l := l) (i := i) (by omega)
  simp only [Option.bind_some]
  rw [hi, idxO_nat hr]
  exact ⟨_, _, rfl, List.mem_of_getElem? hr, hc⟩
theorem pick_ok {c : L01Cur} (h : CurOK c) {l : List (List UInt8)} (h1 : 1 ≤ l.length) (h2 : l.length ≤ 256) : ∃ v c', spec_l01Pick c l = some (v, c') ∧ v ∈ l ∧ CurOK c' := by
  obtain ⟨v, c', e, hv, hc⟩ := below_ok h (n := (l.length : Int)) (by omega) (by omega)
  unfold spec_l01Pick
  rw [e]
  obtain ⟨i, hi⟩ := Int.eq_ofNat_of_zero_le hv.1
  obtain ⟨r, hr⟩ := get_of (l := l) (i := i) (by omega)
  simp only [Option.bind_some]
  rw [hi, idxO_nat hr]
  exact ⟨_, _, rfl, List.mem_of_getElem? hr, hc⟩
def shortL (l : List (List UInt8)) : Bool := l.all fun s => decide (s.length ≤ 40)
theorem short_of {l : List (List UInt8)} (h : shortL l = true) {s : List UInt8} (hs : s ∈ l) : s.length ≤ 40 := by
  unfold shortL at h
  rw [List.all_eq_true] at h
  simpa using h s hs
theorem mail_ok {c : L01Cur} (h : CurOK c) : ∃ v c', spec_l07Mail c = some (v, c') ∧ v.length ≤ 1000 ∧ CurOK c' := by
  unfold spec_l07Mail
  obtain ⟨v1, c1, e1, m1, h1⟩ := pick_ok h (l := [([32, 104, 101, 108, 108, 111] : List UInt8), ([32, 82, 101, 58, 32, 104, 101, 108, 108, 111] : List UInt8), ([32, 111, 116, 104, 101, 114] : List UInt8), ([32, 102, 119, 100, 58, 32, 82, 69, 58, 32, 32, 72, 101, 108, 108, 111, 32] : List UInt8), ([] : List UInt8), ([32, 110, 101, 119, 115] : List UInt8)]) (by decide) (by decide)
  have l1 := short_of (by decide) m1
  obtain ⟨v2, c2, e2, h2⟩ := once_ok h1 (n := 2) (by omega) (by omega)
  rw [e1]
  simp only [Option.bind_some]
  rw [reqO_pos (by simp; omega), reqO_pos (by simp; omega), e2]
  simp only [Option.bind_some]
  by_cases k : v2 = true
  · rw [if_pos k]
    obtain ⟨v3, c3, e3, m3, h3⟩ := pick_ok h2 (l := [([97, 110, 110] : List UInt8), ([98, 111, 98] : List UInt8)]) (by decide) (by decide)
    have l3 := short_of (by decide) m3
    obtain ⟨v4, c4, e4, h4⟩ := once_ok h3 (n := 6) (by omega) (by omega)
    rw [reqO_pos (by simp; omega), e3]
    simp only [Option.bind_some]
    rw [reqO_pos (by simp; omega), reqO_pos (by simp; omega), e4]
    simp only [Option.bind_some]
    by_cases k' : v4 = true
    · rw [if_pos k']
      exact ⟨_, _, rfl, by simp; omega, h4⟩
    · rw [if_neg k']
      obtain ⟨v5, c5, e5, m5, h5⟩ := pick_ok h4 (l := [([116, 101, 120, 116] : List UInt8), ([98, 111, 100, 121, 32, 111, 102, 32, 105, 116, 10] : List UInt8), ([] : List UInt8), ([97, 10, 10, 98] : List UInt8)]) (by decide) (by decide)
      have l5 := short_of (by decide) m5
      rw [reqO_pos (by simp; omega), e5]
      simp only [Option.bind_some]
      rw [reqO_pos (by simp; omega)]
      exact ⟨_, _, rfl, by simp; omega, h5⟩
  · rw [if_neg k]
    obtain ⟨v4, c4, e4, h4⟩ := once_ok h2 (n := 6) (by omega) (by omega)
    rw [e4]
    simp only [Option.bind_some]
    by_cases k' : v4 = true
    · rw [if_pos k']
      exact ⟨_, _, rfl, by simp; omega, h4⟩
    · rw [if_neg k']
      obtain ⟨v5, c5, e5, m5, h5⟩ := pick_ok h4 (l := [([116, 101, 120, 116] : List UInt8), ([98, 111, 100, 121, 32, 111, 102, 32, 105, 116, 10] : List UInt8), ([] : List UInt8), ([97, 10, 10, 98] : List UInt8)]) (by decide) (by decide)
      have l5 := short_of (by decide) m5
      rw [reqO_pos (by simp; omega), e5]
      simp only [Option.bind_some]
      rw [reqO_pos (by simp; omega)]
      exact ⟨_, _, rfl, by simp; omega, h5⟩
theorem setDraw_ok {c : L01Cur} (h : CurOK c) : ∃ v c', spec_l05Draw c = some (v, c') ∧ SetOK v ∧ CurOK c' := by
  have key : ∀ st : List (Int × Int) × Int × L01Cur, (SetOK st.1 ∧ (0 ≤ st.2.1 ∧ st.2.1 ≤ 100) ∧ CurOK st.2.2) → ∃ y, spec_l05Draw_L1 st = some y ∧ (SetOK y.1 ∧ CurOK y.2) := by
    refine loop_inv (fun st : List (Int × Int) × Int × L01Cur => SetOK st.1 ∧ (0 ≤ st.2.1 ∧ st.2.1 ≤ 100) ∧ CurOK st.2.2) (fun st : List (Int × Int) × Int × L01Cur => (100 - st.2.1).toNat) fun st hI => ?_
    obtain ⟨hS, hi, hc⟩ := hI
    have hS40 := hS.2
    obtain ⟨v1, c1, e1, b1, h1⟩ := below_ok hc (n := 5) (by omega) (by omega)
    rw [spec_l05Draw_L1_eq]; unfold spec_l05Draw_L1_B
    rw [e1]
    simp only [Option.bind_some]
    by_cases k : st.2.1 < v1
    · right
      obtain ⟨v2, c2, e2, b2, h2⟩ := below_ok h1 (n := 14) (by omega) (by omega)
      obtain ⟨v3, c3, e3, b3, h3⟩ := below_ok h2 (n := 4) (by omega) (by omega)
      rw [decide_eq_true k, if_pos rfl, e2]
      simp only [Option.bind_some]
      rw [e3]
      simp only [Option.bind_some]
      rw [setAdd_eq _ _ (by omega)]
      simp only [Option.bind_some]
      refine ⟨_, rfl, ⟨put_ok hS _ _ _, ?_, h3⟩, ?_⟩
      · show 0 ≤ w64 (st.2.1 + 1) ∧ w64 (st.2.1 + 1) ≤ 100
        rw [w64_id (by omega) (by omega)]; omega
      · show (100 - w64 (st.2.1 + 1)).toNat < (100 - st.2.1).toNat
        rw [w64_id (by omega) (by omega)]; omega
    · left
      obtain ⟨v2, c2, e2, h2⟩ := once_ok h1 (n := 10) (by omega) (by omega)
      rw [decide_eq_false k, if_neg (by simp), e2]
      simp only [Option.bind_some]
      by_cases k' : v2 = true
      · rw [if_pos k', setAdd_eq _ _ (by omega)]
        exact ⟨_, rfl, put_ok hS _ _ _, h2⟩
      · rw [if_neg k']
        exact ⟨_, rfl, hS, h2⟩
  obtain ⟨y, e, h1, h2⟩ := key ([], 0, c) ⟨⟨trivial, by simp⟩, by show (0 : Int) ≤ 0 ∧ (0 : Int) ≤ 100; omega, h⟩
  exact ⟨y.1, y.2, e, h1, h2⟩
theorem new_ok {code : List Int} (h : code.length ≤ 1048576) : ∃ c, spec_l01New code = some c ∧ CurOK c := by
  have key : ∀ st : Int × Int, 0 ≤ st.2 → ∃ y, spec_l01New_L1 code st = some y ∧ CurOK y := by
    refine loop_inv (fun st : Int × Int => 0 ≤ st.2) (fun st => (1048576 - st.2).toNat) fun st hI => ?_
    rw [spec_l01New_L1_eq]; unfold spec_l01New_L1_B
    by_cases k : st.2 < (code.length : Int)
    · rw [decide_eq_true k, if_pos rfl]
      by_cases k' : st.2 < 4000
      · right
        obtain ⟨i, hi⟩ := Int.eq_ofNat_of_zero_le hI
        obtain ⟨r, hr⟩ := get_of (l := code) (i := i) (by omega)
        rw [decide_eq_true k', if_pos rfl, hi, idxO_nat hr]
        refine ⟨_, rfl, ?_, ?_⟩
        · show 0 ≤ w64 ((i : Int) + 1)
          rw [w64_id (by omega) (by omega)]; omega
        · show (1048576 - w64 ((i : Int) + 1)).toNat < _
          rw [w64_id (by omega) (by omega)]; omega
      · left
        rw [decide_eq_false k', if_neg (by simp)]
        exact ⟨_, rfl, Int.le_refl _, h⟩
    · left
      rw [decide_eq_false k, if_neg (by simp)]
      exact ⟨_, rfl, Int.le_refl _, h⟩
  exact key (_, 0) (Int.le_refl _)
end Go.M
namespace Go.M
open Go.Ev Go.G
def newN : List UInt8 := [110, 101, 119]
structure EditSmall (e : Edit) : Prop where
  name : e.2.1.length < 1073741824
  to : e.2.2.1.length < 1073741824
  set : e.2.2.2.1.length < 1073741824
  text : e.2.2.2.2.2.2.2.length < 1073741824
theorem tot_ite {β : Type} {p : Prop} [Decidable p] {a b : Option β} (h1 : ∃ t, a = some t) (h2 : ∃ t, b = some t) : ∃ t, (if p then a else b) = some t := by split <;> assumption
theorem tot_bind {α β : Type} {a : Option α} {f : α → Option β} {x : α} (h1 : a = some x) (h2 : ∃ t, f x = some t) : ∃ t, a.bind f = some t := by rw [h1]; exact h2
theorem uses_tot (e : Edit) : ∃ t, spec_l10Uses e = some t := by
  unfold spec_l10Uses
  repeat' first | exact ⟨_, rfl⟩ | refine tot_ite ?_ ?_
theorem editOk_tot {e : Edit} (h : EditSmall e) : ∃ t, spec_EditOk e = some t := by
  have h1 := h.name
  have h2 := h.to
  have h3 := h.set
  have h4 := h.text
  obtain ⟨u, hu⟩ := uses_tot e
  unfold spec_EditOk
  repeat' first
    | exact ⟨_, rfl⟩
    | refine tot_ite ?_ ?_
    | refine tot_bind (l01In_eq _ _ _) ?_
    | refine tot_bind (specName_eq (s := e.2.1) (by omega)) ?_
    | refine tot_bind (specName_eq (s := e.2.2.1) (by omega)) ?_
    | refine tot_bind hu ?_
    | refine tot_bind (specSetOk_eq (s := e.2.2.2.1) (by omega)) ?_
    | refine tot_bind (specFlags_eq _) ?_
    | refine tot_bind (specMail_eq (s := e.2.2.2.2.2.2.2) (by omega)) ?_
def NoNew (s : List Box × Int) : Prop := ∀ b ∈ s.1, b.1 ≠ newN
theorem noNew_names {s s' : List Box × Int} (h : NoNew s) (e : s'.1.map (·.1) = s.1.map (·.1)) : NoNew s' := fun b hb k => by
  have : b.1 ∈ s'.1.map (·.1) := List.mem_map_of_mem hb
  rw [e] at this
  obtain ⟨c, hc, hk⟩ := List.mem_map.1 this
  exact h c hc (by rw [hk]; exact k)
def Good (s : List Box × Int) : Prop := StoreOK s ∧ NoNew s
theorem put_good {s : List Box × Int} (h : Good s) {b : Box} (hb : BoxOK b) (hv : b.2.1 < s.2) : Good (putBox s b) := ⟨putBox_ok h.1 hb hv, noNew_names h.2 (putBox_names s b)⟩
theorem make_good {s : List Box × Int} (h : Good s) {name : List UInt8} (hn : name ≠ newN) : Good (makeBox s name).1 := by
  unfold makeBox
  split
  · rename_i k
    split
    · exact h
    · split
      · exact h
      · split
        · exact h
        · rename_i k1 k2 k3
          refine ⟨insB_ok k.1 k.2 (by simpa using k1) k2 k3, fun b hb => ?_⟩
          unfold insB at hb
          dsimp only at hb
          rcases List.mem_append.1 hb with hb | hb
          · rcases List.mem_append.1 hb with hb | hb
            · exact h.2 b (List.mem_filter.1 hb).1
            · simp at hb; subst hb; exact hn
          · exact h.2 b (List.mem_filter.1 hb).1
  · exact h
theorem drop_good {s : List Box × Int} (h : Good s) (name : List UInt8) : Good (dropBox s name).1 := ⟨(dropBox_ok h.1 name).1, fun b hb => h.2 b ((dropBox_ok h.1 name).2 b hb)⟩
theorem copy_bad {s : List Box × Int} {src : List UInt8} {S : List (Int × Int)} {dst : List UInt8} (h : (copyMails s src S dst).2 ≠ 0) : (copyMails s src S dst).1 = s := by
  unfold copyMails at *
  split
  · rename_i k
    rw [if_pos k] at h
    split
    · rename_i f t k1 k2
      split
      · rename_i d k3
        rw [k1, k2] at h
        dsimp only at h
        rw [k3] at h
        exact absurd rfl h
      · rfl
    · rfl
  · rfl
theorem copy_good {s : List Box × Int} (h : Good s) (src : List UInt8) (S : List (Int × Int)) (dst : List UInt8) : Good (copyMails s src S dst).1 := by
  by_cases k : (copyMails s src S dst).2 = 0
  · obtain ⟨f, t, d, c⟩ := copyMails_zero k
    exact ⟨c.facts.2.2.2.2.2.2.1, by rw [c.eq]; exact noNew_names h.2 (putBox_names s d)⟩
  · rw [copy_bad k]; exact h
structure Moved (s : List Box × Int) (src : List UInt8) (S : List (Int × Int)) (dst : List UInt8) (f t d x : Box) : Prop where
  cop : Copied s src S dst f t d
  ne : src ≠ dst
  xeq : x = (expunge S (setFlags S 2 8 (-1) f).1).1
  none : x.2.2.2.2.1.any (inSet S) = false
  eq : (moveMails s src S dst).1 = putBox (putBox s d) x
theorem move_zero {s : List Box × Int} {src : List UInt8} {S : List (Int × Int)} {dst : List UInt8} (h : (moveMails s src S dst).2 = 0) : ∃ f t d x, Moved s src S dst f t d x := by
  by_cases h1 : StoreOK s ∧ SetOK S ∧ src ≠ dst
  · by_cases h3 : (copyMails s src S dst).2 = 0
    · obtain ⟨f, t, d, c⟩ := copyMails_zero h3
      obtain ⟨bf, bt, bd, ef, et, ed, okc, vf, dl⟩ := c.facts
      have hf : boxAt (copyMails s src S dst).1 src = some f := by rw [c.eq, boxAt_put_ne (by rw [ed]; exact fun e => h1.2.2 e.symm), c.hsrc]
      have e : moveMails s src S dst = if (expunge S (setFlags S 2 8 (-1) f).1).1.2.2.2.2.1.any (inSet S) = true then (s, 3) else (putBox (copyMails s src S dst).1 (expunge S (setFlags S 2 8 (-1) f).1).1, 0) := by
        unfold moveMails; rw [if_pos h1, if_pos h3, hf]
      by_cases k : (expunge S (setFlags S 2 8 (-1) f).1).1.2.2.2.2.1.any (inSet S) = true
      · rw [e, if_pos k] at h; simp at h
      · exact ⟨f, t, d, _, c, h1.2.2, rfl, by simpa using k, by rw [e, if_neg k, c.eq]⟩
    · unfold moveMails at h
      rw [if_pos h1, if_neg h3] at h
      exact absurd h h3
  · unfold moveMails at h
    rw [if_neg h1] at h; simp at h
theorem move_bad {s : List Box × Int} {src : List UInt8} {S : List (Int × Int)} {dst : List UInt8} (h : (moveMails s src S dst).2 ≠ 0) : (moveMails s src S dst).1 = s := by
  unfold moveMails at *
  split
  · rename_i k
    rw [if_pos k] at h
    split
    · rename_i k1
      rw [if_pos k1] at h
      split
      · rename_i f k2
        rw [k2] at h
        dsimp only at h
        split
        · rfl
        · rename_i k3
          rw [if_neg k3] at h
          exact absurd rfl h
      · rfl
    · rfl
  · rfl
theorem Moved.facts {s : List Box × Int} {src : List UInt8} {S : List (Int × Int)} {dst : List UInt8} {f t d x : Box} (m : Moved s src S dst f t d x) : BoxOK x ∧ x.1 = src ∧ x.2.1 < s.2 ∧ StoreOK (putBox s d) := by
  obtain ⟨bf, bt, bd, ef, et, ed, okc, vf, dl⟩ := m.cop.facts
  have sf := setFlags_ok S 2 8 (-1) bf
  have xo := expunge_ok S sf.1
  rw [m.cop.eq] at okc
  rw [m.xeq]
  exact ⟨xo.1, by rw [xo.2.1, sf.2.1, ef], by rw [xo.2.2, sf.2.2.1]; exact vf, okc⟩
theorem move_good {s : List Box × Int} (h : Good s) (src : List UInt8) (S : List (Int × Int)) (dst : List UInt8) : Good (moveMails s src S dst).1 := by
  by_cases k : (moveMails s src S dst).2 = 0
  · obtain ⟨f, t, d, x, m⟩ := move_zero k
    have a := m.facts
    rw [m.eq]
    exact put_good ⟨a.2.2.2, noNew_names h.2 (putBox_names s d)⟩ a.1 a.2.2.1
  · rw [move_bad k]; exact h
theorem forget_ok {b : Box} (h : BoxOK b) (upto : Int) : BoxOK (forget b upto) ∧ (forget b upto).2.1 = b.2.1 := by
  unfold forget
  split
  · rename_i k; exact ⟨forgetB_ok h k.2, rfl⟩
  · exact ⟨h, rfl⟩
theorem l10Box_ok {s : List Box × Int} (h : Good s) {b : Box} (hb : BoxOK b) (hv : b.2.1 < s.2) {e : Edit} (he : EditSmall e) : ∃ r, spec_l10Box s b e = some r ∧ Good r.1 := by
  have hs := h.1.small
  unfold spec_l10Box
  by_cases k1 : e.1 = 3
  · rw [decide_eq_true k1, if_pos rfl, specAdd_eq hb.small _ he.text, l09Copy_eq hs]
    have a := addMail_ok hb e.2.2.2.2.2.1 e.2.2.2.2.2.2.2
    simp only [Option.bind_some]
    rw [specPut_eq hs a.1.small]
    split
    · exact ⟨_, rfl, h⟩
    · exact ⟨_, rfl, put_good h a.1 (by rw [a.2.2]; exact hv)⟩
  · rw [decide_eq_false k1, if_neg (by simp)]
    by_cases k2 : e.1 = 4
    · have a := setFlags_ok e.2.2.2.1 e.2.2.2.2.1 e.2.2.2.2.2.1 e.2.2.2.2.2.2.1 hb
      rw [decide_eq_true k2, if_pos rfl, specSetFlags_eq _ _ _ _ hb.small he.set]
      simp only [Option.bind_some]
      rw [specPut_eq hs a.1.small]
      exact ⟨_, rfl, put_good h a.1 (by rw [a.2.2.1]; exact hv)⟩
    · rw [decide_eq_false k2, if_neg (by simp)]
      by_cases k3 : e.1 = 5
      · have a := expunge_ok e.2.2.2.1 hb
        rw [decide_eq_true k3, if_pos rfl, specExp_eq _ hb.small he.set]
        simp only [Option.bind_some]
        rw [specPut_eq hs a.1.small]
        exact ⟨_, rfl, put_good h a.1 (by rw [a.2.2]; exact hv)⟩
      · rw [decide_eq_false k3, if_neg (by simp)]
        by_cases k4 : e.1 = 8
        · have a := forget_ok hb e.2.2.2.2.2.2.1
          rw [decide_eq_true k4, if_pos rfl, specForget_eq hb.small]
          simp only [Option.bind_some]
          rw [specPut_eq hs a.1.small]
          exact ⟨_, rfl, put_good h a.1 (by rw [a.2]; exact hv)⟩
        · rw [decide_eq_false k4, if_neg (by simp), specPut_eq hs hb.small]
          exact ⟨_, rfl, put_good h hb hv⟩
theorem apply_ok {s : List Box × Int} (h : Good s) {e : Edit} (he : EditSmall e) (hn : e.2.1 ≠ newN) : ∃ r, spec_Apply s e = some r ∧ Good r.1 := by
  have hs := h.1.small
  obtain ⟨t, ht⟩ := editOk_tot he
  unfold spec_Apply
  rw [specStoreOk_eq hs, l09Copy_eq hs, ht, specMake_eq hs he.name, specAt_eq hs, specDrop_eq hs, specCopy_eq hs he.set, specMove_eq hs he.set]
  simp only [Option.bind_some]
  rw [nite_tr _ _ h.1]
  split
  · exact ⟨_, rfl, h⟩
  · split
    · exact ⟨_, rfl, make_good h hn⟩
    · rcases k : boxAt s e.2.1 with _ | b
      · exact ⟨_, rfl, h⟩
      · have hb := boxAt_some k
        have bo := h.1.box b hb.1
        have bv := (((storeOK_iff s).1 h.1).1 b hb.1).2
        rw [if_neg (by simp [optBox])]
        split
        · exact ⟨_, rfl, drop_good h _⟩
        · split
          · exact ⟨_, rfl, copy_good h _ _ _⟩
          · split
            · exact ⟨_, rfl, move_good h _ _ _⟩
            · obtain ⟨r, hr, hg⟩ := l10Box_ok h bo bv he
              refine ⟨r, ?_, hg⟩
              show (spec_l10Box s b e).bind _ = _
              rw [hr]; rfl
def nameOk (s : List UInt8) : Prop := s.length < 1000 ∧ s ≠ newN
def EditFine (e : Edit) : Prop := EditSmall e ∧ e.2.1 ≠ newN
theorem fine_of {k : Int} {n to : List UInt8} {S : List (Int × Int)} {a b c : Int} {t : List UInt8} (h1 : nameOk n) (h2 : to.length < 1000) (h3 : S.length ≤ 40) (h4 : t.length ≤ 1000) : EditFine (k, n, to, S, a, b, c, t) :=
  ⟨⟨by have := h1.1; show n.length < _; omega, by show to.length < _; omega, by show S.length < _; omega, by show t.length < _; omega⟩, h1.2⟩
def names3 : List (List UInt8) := [([119, 111, 114, 107] : List UInt8), ([111, 108, 100] : List UInt8), ([97] : List UInt8)]
def names4 : List (List UInt8) := [([119, 111, 114, 107] : List UInt8), ([111, 108, 100] : List UInt8), ([105, 110, 98, 111, 120] : List UInt8)]
def names5 : List (List UInt8) := [([105, 110, 98, 111, 120] : List UInt8), ([105, 110, 98, 111, 120] : List UInt8), ([105, 110, 98, 111, 120] : List UInt8), ([119, 111, 114, 107] : List UInt8), ([111, 108, 100] : List UInt8)]
noncomputable def tailE (k : Int) (n : List UInt8) (c : L01Cur) : Option (Edit × L01Cur) :=
  if (decide (k = (3 : Int))) = true then
   (spec_l01PickInt c [(0 : Int), (1 : Int), (8 : Int), (4 : Int), (9 : Int)]).bind fun y3 =>
   (spec_l07Mail y3.2).bind fun y4 =>
   some ((k, n, ([] : List UInt8), ([] : List (Int × Int)), (0 : Int), y3.1, (0 : Int), y4.1), y4.2)
  else
  if (decide (k = (4 : Int))) = true then
   (spec_l05Draw c).bind fun y5 =>
   (spec_l01Below y5.2 (3 : Int)).bind fun y6 =>
   (spec_l01PickInt y6.2 [(1 : Int), (8 : Int), (8 : Int), (4 : Int), (31 : Int)]).bind fun y7 =>
   (spec_l01PickInt y7.2 [(-1 : Int), (-1 : Int), (3 : Int), (9 : Int)]).bind fun y8 =>
   some ((k, n, ([] : List UInt8), y5.1, (w64 ((1 : Int) + y6.1)), y7.1, y8.1, ([] : List UInt8)), y8.2)
  else
  if (decide (k = (5 : Int))) = true then
   some ((k, n, ([] : List UInt8), [((1 : Int), (9999 : Int))], (0 : Int), (0 : Int), (0 : Int), ([] : List UInt8)), c)
  else
  if (decide (k = (6 : Int))) = true then
   if (decide (k = (6 : Int))) = true then
    (spec_l05Draw c).bind fun y9 =>
    (spec_l01Pick y9.2 names4).bind fun y10 =>
    some ((k, n, y10.1, y9.1, (0 : Int), (0 : Int), (0 : Int), ([] : List UInt8)), y10.2)
   else
   if (decide (k = (8 : Int))) = true then
    (spec_l01Below c (9 : Int)).bind fun y11 =>
    some ((k, n, ([] : List UInt8), ([] : List (Int × Int)), (0 : Int), (0 : Int), y11.1, ([] : List UInt8)), y11.2)
   else
   some ((k, n, ([] : List UInt8), ([] : List (Int × Int)), (0 : Int), (0 : Int), (0 : Int), ([] : List UInt8)), c)
  else
  if (decide (k = (7 : Int))) = true then
   (spec_l05Draw c).bind fun y12 =>
   (spec_l01Pick y12.2 names4).bind fun y13 =>
   some ((k, n, y13.1, y12.1, (0 : Int), (0 : Int), (0 : Int), ([] : List UInt8)), y13.2)
  else
  if (decide (k = (8 : Int))) = true then
   (spec_l01Below c (9 : Int)).bind fun y14 =>
   some ((k, n, ([] : List UInt8), ([] : List (Int × Int)), (0 : Int), (0 : Int), y14.1, ([] : List UInt8)), y14.2)
  else
  some ((k, n, ([] : List UInt8), ([] : List (Int × Int)), (0 : Int), (0 : Int), (0 : Int), ([] : List UInt8)), c)
theorem tailE_ok (k : Int) {n : List UInt8} (hn : nameOk n) {c : L01Cur} (h : CurOK c) : ∃ e c', tailE k n c = some (e, c') ∧ EditFine e ∧ CurOK c' := by
  have six : ∃ e c', ((spec_l05Draw c).bind fun y9 => (spec_l01Pick y9.2 names4).bind fun y10 => some (((k, n, y10.1, y9.1, (0 : Int), (0 : Int), (0 : Int), ([] : List UInt8)) : Edit), y10.2)) = some (e, c') ∧ EditFine e ∧ CurOK c' := by
    obtain ⟨v1, c1, e1, s1, h1⟩ := setDraw_ok h
    obtain ⟨v2, c2, e2, m2, h2⟩ := pick_ok h1 (l := names4) (by decide) (by decide)
    have l2 := short_of (by decide) m2
    rw [e1]; simp only [Option.bind_some]; rw [e2]
    exact ⟨_, _, rfl, fine_of hn (by show v2.length < 1000; omega) s1.2 (by simp), h2⟩
  have eight : ∃ e c', ((spec_l01Below c (9 : Int)).bind fun y11 => some (((k, n, ([] : List UInt8), ([] : List (Int × Int)), (0 : Int), (0 : Int), y11.1, ([] : List UInt8)) : Edit), y11.2)) = some (e, c') ∧ EditFine e ∧ CurOK c' := by
    obtain ⟨v1, c1, e1, b1, h1⟩ := below_ok h (n := 9) (by omega) (by omega)
    rw [e1]
    exact ⟨_, _, rfl, fine_of hn (by simp) (by simp) (by simp), h1⟩
  unfold tailE
  split
  · obtain ⟨v1, c1, e1, m1, h1⟩ := pickInt_ok h (l := [(0 : Int), (1 : Int), (8 : Int), (4 : Int), (9 : Int)]) (by decide) (by decide)
    obtain ⟨v2, c2, e2, l2, h2⟩ := mail_ok h1
    rw [e1]; simp only [Option.bind_some]; rw [e2]
    exact ⟨_, _, rfl, fine_of hn (by simp) (by simp) l2, h2⟩
  · split
    · obtain ⟨v1, c1, e1, s1, h1⟩ := setDraw_ok h
      obtain ⟨v2, c2, e2, b2, h2⟩ := below_ok h1 (n := 3) (by omega) (by omega)
      obtain ⟨v3, c3, e3, m3, h3⟩ := pickInt_ok h2 (l := [(1 : Int), (8 : Int), (8 : Int), (4 : Int), (31 : Int)]) (by decide) (by decide)
      obtain ⟨v4, c4, e4, m4, h4⟩ := pickInt_ok h3 (l := [(-1 : Int), (-1 : Int), (3 : Int), (9 : Int)]) (by decide) (by decide)
      rw [e1]; simp only [Option.bind_some]; rw [e2]; simp only [Option.bind_some]; rw [e3]; simp only [Option.bind_some]; rw [e4]
      exact ⟨_, _, rfl, fine_of hn (by simp) s1.2 (by simp), h4⟩
    · split
      · exact ⟨_, _, rfl, fine_of hn (by simp) (by simp) (by simp), h⟩
      · split
        · exact six
        · split
          · exact six
          · split
            · exact eight
            · exact ⟨_, _, rfl, fine_of hn (by simp) (by simp) (by simp), h⟩
def notNew (l : List (List UInt8)) : Bool := l.all fun s => decide (s.length < 1000) && !decide (s = newN)
theorem nameOk_of {l : List (List UInt8)} (h : notNew l = true) {s : List UInt8} (hs : s ∈ l) : nameOk s := by
  unfold notNew at h
  rw [List.all_eq_true] at h
  simpa [nameOk] using h s hs
theorem edit_eq (c : L01Cur) : spec_l10Edit c = (spec_l01PickInt c [(1 : Int), (3 : Int), (3 : Int), (3 : Int), (3 : Int), (4 : Int), (4 : Int), (4 : Int), (5 : Int), (5 : Int), (6 : Int), (7 : Int), (2 : Int), (8 : Int)]).bind fun y =>
    (spec_l01Pick y.2 names5).bind fun y1 =>
    if (decide (y.1 = (1 : Int))) = true then (spec_l01Pick y1.2 names3).bind fun y2 => tailE y.1 y2.1 y2.2
    else if (decide (y.1 = (2 : Int))) = true then (spec_l01Pick y1.2 names3).bind fun y2 => tailE y.1 y2.1 y2.2
    else tailE y.1 y1.1 y1.2 := rfl
theorem edit_ok {c : L01Cur} (h : CurOK c) : ∃ e c', spec_l10Edit c = some (e, c') ∧ EditFine e ∧ CurOK c' := by
  obtain ⟨v1, c1, e1, m1, h1⟩ := pickInt_ok h (l := [(1 : Int), (3 : Int), (3 : Int), (3 : Int), (3 : Int), (4 : Int), (4 : Int), (4 : Int), (5 : Int), (5 : Int), (6 : Int), (7 : Int), (2 : Int), (8 : Int)]) (by decide) (by decide)
  obtain ⟨v2, c2, e2, m2, h2⟩ := pick_ok h1 (l := names5) (by decide) (by decide)
  obtain ⟨v3, c3, e3, m3, h3⟩ := pick_ok h2 (l := names3) (by decide) (by decide)
  rw [edit_eq, e1]; simp only [Option.bind_some]; rw [e2]; simp only [Option.bind_some]; rw [e3]; simp only [Option.bind_some]
  split
  · exact tailE_ok _ (nameOk_of (by decide) m3) h3
  · split
    · exact tailE_ok _ (nameOk_of (by decide) m3) h3
    · exact tailE_ok _ (nameOk_of (by decide) m2) h2
theorem storeNew_ok : ∃ y, spec_StoreNew = some y ∧ Good y := by
  have hN : NameOK inboxN := by
    refine ⟨fun i hi x hx => ?_, by decide⟩
    have : ∀ z ∈ inboxN, 97 ≤ z.toNat ∧ z.toNat ≤ 122 := by decide
    exact this x (List.mem_of_getElem? hx)
  refine ⟨([newB inboxN 1], 2), ?_, ?_, ?_⟩
  · unfold spec_StoreNew
    have := specNew_eq hN (valid := 1) (by omega)
    unfold inboxN at this
    rw [this]; rfl
  · rw [storeOK_iff]
    refine ⟨fun b hb => ?_, by simp, by simp, by show (2 : Int) ≤ 2 ∧ (2 : Int) ≤ 9999; omega⟩
    simp at hb; subst hb
    exact ⟨newB_ok hN (by omega), by show (1 : Int) < 2; omega⟩
  · intro b hb
    simp at hb; subst hb
    show inboxN ≠ newN
    decide
theorem store_ok {c : L01Cur} (h : CurOK c) : ∃ y, spec_l09Store c = some y ∧ Good y.1 ∧ CurOK y.2 := by
  obtain ⟨s0, e0, g0⟩ := storeNew_ok
  have key : ∀ st : Int × L01Cur × (List Box × Int), ((0 ≤ st.1 ∧ st.1 ≤ 100) ∧ CurOK st.2.1 ∧ Good st.2.2) → ∃ y, spec_l09Store_L1 st = some y ∧ (Good y.1 ∧ CurOK y.2) := by
    refine loop_inv (fun st : Int × L01Cur × (List Box × Int) => (0 ≤ st.1 ∧ st.1 ≤ 100) ∧ CurOK st.2.1 ∧ Good st.2.2) (fun st : Int × L01Cur × (List Box × Int) => (100 - st.1).toNat) fun st hI => ?_
    obtain ⟨hi, hc, hg⟩ := hI
    obtain ⟨v1, c1, e1, b1, h1⟩ := below_ok hc (n := 20) (by omega) (by omega)
    rw [spec_l09Store_L1_eq]; unfold spec_l09Store_L1_B
    rw [e1]
    simp only [Option.bind_some]
    rw [w64_id (x := 3 + v1) (by omega) (by omega)]
    by_cases k : st.1 < 3 + v1
    · right
      obtain ⟨e, c2, e2, f2, h2⟩ := edit_ok h1
      obtain ⟨r, e3, g3⟩ := apply_ok hg f2.1 f2.2
      rw [decide_eq_true k, if_pos rfl, e2]
      simp only [Option.bind_some]
      rw [e3]
      simp only [Option.bind_some]
      refine ⟨_, rfl, ⟨?_, h2, g3⟩, ?_⟩
      · show 0 ≤ w64 (st.1 + 1) ∧ w64 (st.1 + 1) ≤ 100
        rw [w64_id (by omega) (by omega)]; omega
      · show (100 - w64 (st.1 + 1)).toNat < (100 - st.1).toNat
        rw [w64_id (by omega) (by omega)]; omega
    · left
      rw [decide_eq_false k, if_neg (by simp)]
      exact ⟨_, rfl, hg, h1⟩
  unfold spec_l09Store
  rw [e0]
  exact key (0, c, s0) ⟨by show (0 : Int) ≤ 0 ∧ (0 : Int) ≤ 100; omega, h, g0⟩
end Go.M
namespace Go.M
open Go.Ev Go.G
theorem sameL2 {a : Box} (h : BoxSmall a) : ∀ (l pre : List (Int × Int)), a.2.2.2.2.2.1 = pre ++ l → spec_l19SameBox_L2 a a (pre.length : Int) = some true
  | [], pre, e => by rw [spec_l19SameBox_L2_eq]; unfold spec_l19SameBox_L2_B; rw [if_neg (by rw [e]; simp)]
  | r :: l, pre, e => by
    have hl := h.tombs
    have hp : pre.length < a.2.2.2.2.2.1.length := by rw [e]; simp
    have hr : a.2.2.2.2.2.1[pre.length]? = some r := by rw [e]; simp
    rw [spec_l19SameBox_L2_eq]; unfold spec_l19SameBox_L2_B
    rw [dlt hp, if_pos rfl, idxO_nat hr, idxO_nat hr, if_neg (by simp), show w64 ((pre.length : Int) + 1) = ((pre ++ [r]).length : Int) by rw [w64_id (by omega) (by omega)]; simp]
    exact sameL2 h l (pre ++ [r]) (by rw [e]; simp)
theorem sameL1 {a : Box} (h : BoxSmall a) : ∀ (l pre : List Mail), a.2.2.2.2.1 = pre ++ l → spec_l19SameBox_L1 a a (pre.length : Int) = some true
  | [], pre, e => by rw [spec_l19SameBox_L1_eq]; unfold spec_l19SameBox_L1_B; rw [if_neg (by rw [e]; simp)]; exact sameL2 h _ [] rfl
  | r :: l, pre, e => by
    have hl := h.mails
    have hp : pre.length < a.2.2.2.2.1.length := by rw [e]; simp
    have hr : a.2.2.2.2.1[pre.length]? = some r := by rw [e]; simp
    rw [spec_l19SameBox_L1_eq]; unfold spec_l19SameBox_L1_B
    rw [dlt hp, if_pos rfl, idxO_nat hr, idxO_nat hr, if_neg (by simp), show w64 ((pre.length : Int) + 1) = ((pre ++ [r]).length : Int) by rw [w64_id (by omega) (by omega)]; simp]
    exact sameL1 h l (pre ++ [r]) (by rw [e]; simp)
theorem sameBox_self {a : Box} (h : BoxSmall a) : spec_l19SameBox a a = some true := by
  unfold spec_l19SameBox
  simp only [decide_true, Bool.not_true, Bool.false_eq_true, if_false]
  exact sameL1 h _ [] rfl
theorem same_at {s : List Box × Int} (h : StoreSmall s) : ∀ (l pre : List Box), s.1 = pre ++ l → spec_SameStore_L1 s s (pre.length : Int) = some true
  | [], pre, e => by rw [spec_SameStore_L1_eq]; unfold spec_SameStore_L1_B; rw [if_neg (by rw [e]; simp)]
  | r :: l, pre, e => by
    have hl := h.len
    have hp : pre.length < s.1.length := by rw [e]; simp
    have hr : s.1[pre.length]? = some r := by rw [e]; simp
    rw [spec_SameStore_L1_eq]; unfold spec_SameStore_L1_B
    rw [dlt hp, if_pos rfl, idxO_nat hr, idxO_nat hr, sameBox_self (h.box r (by rw [e]; simp)), show w64 ((pre.length : Int) + 1) = ((pre ++ [r]).length : Int) by rw [w64_id (by omega) (by omega)]; simp]
    exact same_at h l (pre ++ [r]) (by rw [e]; simp)
theorem same_self {s : List Box × Int} (h : StoreSmall s) : spec_SameStore s s = some true := by
  unfold spec_SameStore
  simp only [decide_true, Bool.not_true, Bool.false_eq_true, if_false]
  exact same_at h _ [] rfl
end Go.M
namespace Go.M
open Go.Ev Go.G
theorem names_ne {l : List Box} (h : l.Pairwise NameLt) {a b : List Box} {x : Box} (e : l = a ++ x :: b) : (∀ y ∈ a, y.1 ≠ x.1) ∧ ∀ y ∈ b, y.1 ≠ x.1 := by
  rw [e, List.pairwise_append] at h
  constructor
  · intro y hy k
    have := h.2.2 y hy x (by simp)
    unfold NameLt at this
    rw [k, less_irrefl] at this; cases this
  · intro y hy k
    have := (List.pairwise_cons.1 h.2.1).1 y hy
    unfold NameLt at this
    rw [k, less_irrefl] at this; cases this
theorem implDrop_eq {s : List Box × Int} (hs : StoreSmall s) (name : List UInt8) : impl_DropBox s name = some (dropBox s name) := by
  unfold impl_DropBox dropBox
  rw [copyStore_eq hs, implIdx_eq hs, implStoreOk_eq hs]
  simp only [Option.bind_some]
  by_cases h1 : StoreOK s
  · rw [nite_tr _ _ h1]
    by_cases h2 : name = inboxN
    · rw [decide_eq_true (show name = [105, 110, 98, 111, 120] from h2), if_pos rfl, if_neg (show ¬ (StoreOK s ∧ name ≠ inboxN) from fun h => h.2 h2)]
    · rw [decide_eq_false (show ¬ name = [105, 110, 98, 111, 120] from h2), if_neg (by simp), if_pos (show StoreOK s ∧ name ≠ inboxN from ⟨h1, h2⟩)]
      have h4 := h1.2.1
      by_cases h : ∃ x ∈ s.1, (fun b : Box => decide (b.1 = name)) x = true
      · obtain ⟨a, x, b, e1, e2, e3, e4⟩ := idxF_at (fun b : Box => decide (b.1 = name)) s.1 0 h
        have hx : x.1 = name := by simpa using e2
        have hn := names_ne ((storeOK_iff s).1 h1).2.1 e1
        have hsome : (boxAt s name).isSome = true := by unfold boxAt; rw [e1, find_split (fun b : Box => decide (b.1 = name)) e2 e3]; rfl
        have hfil : s.1.filter (fun b => !decide (b.1 = name)) = a ++ b := by
          rw [e1, List.filter_append, List.filter_cons_of_neg (by simp [hx]), filter_all fun y hy => by simp [← hx, hn.1 y hy], filter_all fun y hy => by simp [← hx, hn.2 y hy]]
        have hlen : s.1.length = a.length + 1 + b.length := by rw [e1]; simp; omega
        rw [e4, Nat.zero_add, decide_eq_true (by omega), if_pos rfl, if_pos hsome, hfil]
        by_cases h5 : s.1.length = 1
        · rw [decide_eq_true (by omega), if_pos rfl, if_pos (by rw [List.append_eq_nil_iff]; exact ⟨List.eq_nil_of_length_eq_zero (by omega), List.eq_nil_of_length_eq_zero (by omega)⟩)]
        · rw [decide_eq_false (by omega), if_neg (by simp), decide_eq_false (by omega), if_neg (by simp), w64_id (by omega) (by omega), if_neg (by rw [List.append_eq_nil_iff]; rintro ⟨k1, k2⟩; rw [k1, k2] at hlen; simp at hlen; omega)]
          unfold slices_Delete_impl_Box
          rw [if_pos ⟨by omega, rfl, by omega, by simp [bound]; omega⟩, Int.toNat_natCast, e1]
          simp
      · have h' : ∀ x ∈ s.1, (fun b : Box => decide (b.1 = name)) x = false := fun x hx => by simpa using fun e => h ⟨x, hx, by simpa using e⟩
        have hnone : (boxAt s name).isSome = false := by unfold boxAt; rw [List.find?_eq_none.2 fun y hy => by simpa using h' y hy]; rfl
        rw [idxF_m1 _ _ _ h', hnone, if_neg (by decide), if_pos (by decide), if_neg (by simp)]
  · rw [nite_ntr _ _ h1, if_neg (show ¬ (StoreOK s ∧ name ≠ inboxN) from fun h => h1 h.1)]
theorem inboxN_ok : NameOK inboxN := by
  refine ⟨fun i hi x hx => ?_, by decide⟩
  have : ∀ z ∈ inboxN, 97 ≤ z.toNat ∧ z.toNat ≤ 122 := by decide
  exact this x (List.mem_of_getElem? hx)
theorem implStoreNew : ∃ y, impl_StoreNew = some y ∧ StoreOK y := by
  refine ⟨([newB inboxN 1], 2), ?_, ?_⟩
  · unfold impl_StoreNew
    have := implNew_eq inboxN_ok (valid := 1) (by omega)
    unfold inboxN at this
    rw [this]; rfl
  · rw [storeOK_iff]
    refine ⟨fun b hb => ?_, by simp, by simp, by show (2 : Int) ≤ 2 ∧ (2 : Int) ≤ 9999; omega⟩
    simp at hb; subst hb
    exact ⟨newB_ok inboxN_ok (by omega), by show (1 : Int) < 2; omega⟩
theorem below_big {c : L01Cur} (h : CurOK c) {n : Int} (h1 : 1 ≤ n) (h2 : n ≤ 2000000000) : ∃ v c', spec_l01Below c n = some (v, c') ∧ (0 ≤ v ∧ v < n) ∧ CurOK c' := by
  by_cases k : n ≤ 256
  · exact below_ok h h1 k
  · unfold spec_l01Below
    obtain ⟨v1, c1, e1, b1, h1'⟩ := byte_ok h
    obtain ⟨v2, c2, e2, b2, h2'⟩ := byte_ok h1'
    obtain ⟨v3, c3, e3, b3, h3'⟩ := byte_ok h2'
    obtain ⟨v4, c4, e4, b4, h4'⟩ := byte_ok h3'
    rw [decide_eq_false (by omega), if_neg (by simp), decide_eq_false k, if_neg (by simp), e1]
    simp only [Option.bind_some]
    rw [e2]
    simp only [Option.bind_some]
    rw [e3]
    simp only [Option.bind_some]
    rw [e4]
    simp only [Option.bind_some]
    rw [reqO_pos (by omega), w64_id (x := v1 * 16777216) (by omega) (by omega), w64_id (x := v2 * 65536) (by omega) (by omega), w64_id (x := v3 * 256) (by omega) (by omega), w64_id (x := v1 * 16777216 + v2 * 65536) (by omega) (by omega),
      w64_id (x := v1 * 16777216 + v2 * 65536 + v3 * 256) (by omega) (by omega), w64_id (x := v1 * 16777216 + v2 * 65536 + v3 * 256 + v4) (by omega) (by omega)]
    exact ⟨_, _, rfl, ⟨Int.tmod_nonneg _ (by omega), Int.tmod_lt_of_pos _ (by omega)⟩, h4'⟩
theorem name_ok {c : L01Cur} (h : CurOK c) : ∃ v c', spec_l09Name c = some (v, c') ∧ v.length ≤ 40 ∧ CurOK c' := by
  unfold spec_l09Name
  obtain ⟨v, c', e, m, h'⟩ := pick_ok h (l := [([105, 110, 98, 111, 120] : List UInt8), ([105, 110, 98, 111, 120] : List UInt8), ([119, 111, 114, 107] : List UInt8), ([111, 108, 100] : List UInt8), ([97] : List UInt8), ([110, 111, 110, 101] : List UInt8)]) (by decide) (by decide)
  rw [e]
  exact ⟨_, _, rfl, short_of (by decide) m, h'⟩
theorem any_set {c : L01Cur} (h : CurOK c) : ∃ v c', spec_l05Any c = some (v, c') ∧ v.length ≤ 1000 ∧ CurOK c' := by
  unfold spec_l05Any
  obtain ⟨v0, c0, e0, s0, h0⟩ := setDraw_ok h
  have l0 := s0.2
  obtain ⟨v1, c1, e1, b1, h1⟩ := below_ok h0 (n := 10) (by omega) (by omega)
  rw [e0]
  simp only [Option.bind_some, List.nil_append]
  rw [reqO_pos (by simp [bound]; omega), e1]
  simp only [Option.bind_some]
  split
  · obtain ⟨v2, c2, e2, m2, h2⟩ := pickInt_ok h1 (l := [(0 : Int), (5 : Int), (9998 : Int)]) (by decide) (by decide)
    obtain ⟨v3, c3, e3, m3, h3⟩ := pickInt_ok h2 (l := [(4 : Int), (9999 : Int), (10000 : Int)]) (by decide) (by decide)
    rw [e2]
    simp only [Option.bind_some]
    rw [e3]
    simp only [Option.bind_some]
    rw [reqO_pos (by simp [bound]; omega)]
    exact ⟨_, _, rfl, by simp; omega, h3⟩
  · split
    · rw [reqO_pos (by simp [bound]; omega)]
      exact ⟨_, _, rfl, by simp; omega, h1⟩
    · split
      · have key : ∀ st : List (Int × Int) × Int × L01Cur, (st.1.length ≤ 100 ∧ (0 ≤ st.2.1 ∧ st.2.1 ≤ st.1.length) ∧ CurOK st.2.2) → ∃ y, spec_l05Any_L1 st = some y ∧ (y.1.length ≤ 1000 ∧ CurOK y.2) := by
          refine loop_inv (fun st : List (Int × Int) × Int × L01Cur => st.1.length ≤ 100 ∧ (0 ≤ st.2.1 ∧ st.2.1 ≤ st.1.length) ∧ CurOK st.2.2) (fun st : List (Int × Int) × Int × L01Cur => 101 - st.1.length) fun st hI => ?_
          obtain ⟨hl, hi, hc⟩ := hI
          obtain ⟨v4, c4, e4, b4, h4⟩ := below_ok hc (n := 2) (by omega) (by omega)
          rw [spec_l05Any_L1_eq]; unfold spec_l05Any_L1_B
          rw [e4]
          simp only [Option.bind_some]
          rw [w64_id (x := 40 + v4) (by omega) (by omega)]
          by_cases k : (st.1.length : Int) < 40 + v4
          · right
            rw [decide_eq_true k, if_pos rfl, reqO_pos (by simp [bound]; omega)]
            refine ⟨_, rfl, ⟨by simp; omega, ?_, h4⟩, by simp; omega⟩
            show 0 ≤ w64 (st.2.1 + 1) ∧ w64 (st.2.1 + 1) ≤ ((st.1 ++ [_]).length : Int)
            rw [w64_id (by omega) (by omega)]; simp; omega
          · left
            rw [decide_eq_false k, if_neg (by simp)]
            exact ⟨_, rfl, by show st.1.length ≤ 1000; omega, h4⟩
        obtain ⟨y, e, a, b⟩ := key (v0, 0, c1) ⟨by show v0.length ≤ 100; omega, by show (0 : Int) ≤ 0 ∧ (0 : Int) ≤ v0.length; omega, h1⟩
        exact ⟨y.1, y.2, e, a, b⟩
      · exact ⟨_, _, rfl, by omega, h1⟩
end Go.M
namespace Go.M
open Go.Ev Go.G
def boxNames : List (List UInt8) := [([105, 110, 98, 111, 120] : List UInt8), ([119, 111, 114, 107] : List UInt8), ([111, 108, 100] : List UInt8)]
theorem boxName_ok {n : List UInt8} (h : n ∈ boxNames) : NameOK n := by
  have : ∀ m ∈ boxNames, (∀ z ∈ m, 97 ≤ z.toNat ∧ z.toNat ≤ 122) ∧ (1 ≤ m.length ∧ m.length ≤ 8) := by decide
  exact ⟨fun i hi x hx => (this n h).1 x (List.mem_of_getElem? hx), (this n h).2⟩
theorem box_ok {c : L01Cur} (h : CurOK c) : ∃ v c', spec_l08Box c = some (v, c') ∧ BoxOK v ∧ CurOK c' := by
  have key : ∀ st : Int × L01Cur × Box, ((0 ≤ st.1 ∧ st.1 ≤ 100) ∧ CurOK st.2.1 ∧ BoxOK st.2.2) → ∃ y, spec_l08Box_L1 st = some y ∧ (BoxOK y.1 ∧ CurOK y.2) := by
    refine loop_inv (fun st : Int × L01Cur × Box => (0 ≤ st.1 ∧ st.1 ≤ 100) ∧ CurOK st.2.1 ∧ BoxOK st.2.2) (fun st : Int × L01Cur × Box => (100 - st.1).toNat) fun st hI => ?_
    obtain ⟨i, c0, b⟩ := st
    obtain ⟨hi, hc, hb⟩ := hI
    dsimp only at hi hc hb
    obtain ⟨v1, c1, e1, b1, h1⟩ := below_ok hc (n := 16) (by omega) (by omega)
    rw [spec_l08Box_L1_eq]; unfold spec_l08Box_L1_B
    dsimp only
    rw [e1]
    simp only [Option.bind_some]
    rw [w64_id (x := 2 + v1) (by omega) (by omega)]
    by_cases k : i < 2 + v1
    · right
      obtain ⟨v2, c2, e2, b2, h2⟩ := below_ok h1 (n := 6) (by omega) (by omega)
      rw [decide_eq_true k, if_pos rfl, e2]
      simp only [Option.bind_some]
      have fin : ∀ (c3 : L01Cur) (b' : Box), CurOK c3 → BoxOK b' → ∃ st' : Int × L01Cur × Box, spec_l08Box_L1 (w64 (i + 1), c3, b') = spec_l08Box_L1 st' ∧ ((0 ≤ st'.1 ∧ st'.1 ≤ 100) ∧ CurOK st'.2.1 ∧ BoxOK st'.2.2) ∧ (100 - st'.1).toNat < (100 - i).toNat := fun c3 b' h3 hb' => by
        refine ⟨_, rfl, ⟨?_, h3, hb'⟩, ?_⟩
        · show 0 ≤ w64 (i + 1) ∧ w64 (i + 1) ≤ 100
          rw [w64_id (by omega) (by omega)]; omega
        · show (100 - w64 (i + 1)).toNat < _
          rw [w64_id (by omega) (by omega)]; omega
      have A : ∃ st' : Int × L01Cur × Box, ((spec_l01Below c2 (32 : Int)).bind fun y5 => (spec_l07Mail y5.2).bind fun y6 => (spec_AddMail b y5.1 y6.1).bind fun y7 => spec_l08Box_L1 ((w64 (i + (1 : Int))), y6.2, y7.1)) = spec_l08Box_L1 st' ∧ ((0 ≤ st'.1 ∧ st'.1 ≤ 100) ∧ CurOK st'.2.1 ∧ BoxOK st'.2.2) ∧ (100 - st'.1).toNat < (100 - i).toNat := by
        obtain ⟨v3, c3, e3, b3, h3⟩ := below_ok h2 (n := 32) (by omega) (by omega)
        obtain ⟨v4, c4, e4, l4, h4⟩ := mail_ok h3
        rw [e3]; simp only [Option.bind_some]; rw [e4]; simp only [Option.bind_some]; rw [specAdd_eq hb.small _ (by omega)]; simp only [Option.bind_some]
        exact fin c4 _ h4 (addMail_ok hb _ _).1
      have B : ∃ st' : Int × L01Cur × Box, ((spec_l05Draw c2).bind fun y8 => (spec_l01Below y8.2 (3 : Int)).bind fun y9 => (spec_l01Below y9.2 (32 : Int)).bind fun y10 => (spec_SetFlags b y8.1 (w64 ((1 : Int) + y9.1)) y10.1 (-1 : Int)).bind fun y11 => spec_l08Box_L1 ((w64 (i + (1 : Int))), y10.2, y11.1)) = spec_l08Box_L1 st' ∧ ((0 ≤ st'.1 ∧ st'.1 ≤ 100) ∧ CurOK st'.2.1 ∧ BoxOK st'.2.2) ∧ (100 - st'.1).toNat < (100 - i).toNat := by
        obtain ⟨v3, c3, e3, s3, h3⟩ := setDraw_ok h2
        obtain ⟨v4, c4, e4, b4, h4⟩ := below_ok h3 (n := 3) (by omega) (by omega)
        obtain ⟨v5, c5, e5, b5, h5⟩ := below_ok h4 (n := 32) (by omega) (by omega)
        have := s3.2
        rw [e3]; simp only [Option.bind_some]; rw [e4]; simp only [Option.bind_some]; rw [e5]; simp only [Option.bind_some]; rw [specSetFlags_eq _ _ _ _ hb.small (by omega)]; simp only [Option.bind_some]
        exact fin c5 _ h5 (setFlags_ok _ _ _ _ hb).1
      have C : ∃ st' : Int × L01Cur × Box, ((spec_l05Draw c2).bind fun y12 => (spec_Expunge b y12.1).bind fun y13 => spec_l08Box_L1 ((w64 (i + (1 : Int))), y12.2, y13.1)) = spec_l08Box_L1 st' ∧ ((0 ≤ st'.1 ∧ st'.1 ≤ 100) ∧ CurOK st'.2.1 ∧ BoxOK st'.2.2) ∧ (100 - st'.1).toNat < (100 - i).toNat := by
        obtain ⟨v3, c3, e3, s3, h3⟩ := setDraw_ok h2
        have := s3.2
        rw [e3]; simp only [Option.bind_some]; rw [specExp_eq _ hb.small (by omega)]; simp only [Option.bind_some]
        exact fin c3 _ h3 (expunge_ok _ hb).1
      have Dn : ∃ st' : Int × L01Cur × Box, ((spec_l01Once c2 (3 : Int)).bind fun y14 => if y14.1 = true then (spec_l01Below y14.2 (w64 (b.2.2.2.1 + (1 : Int)))).bind fun y15 => (spec_ForgetTombs b y15.1).bind fun y16 => spec_l08Box_L1 ((w64 (i + (1 : Int))), y15.2, y16) else spec_l08Box_L1 ((w64 (i + (1 : Int))), y14.2, b)) = spec_l08Box_L1 st' ∧ ((0 ≤ st'.1 ∧ st'.1 ≤ 100) ∧ CurOK st'.2.1 ∧ BoxOK st'.2.2) ∧ (100 - st'.1).toNat < (100 - i).toNat := by
        have hmod := hb.2.2.2.1
        obtain ⟨v3, c3, e3, h3⟩ := once_ok h2 (n := 3) (by omega) (by omega)
        rw [e3]; simp only [Option.bind_some]
        split
        · obtain ⟨v4, c4, e4, b4, h4⟩ := below_big h3 (n := b.2.2.2.1 + 1) (by omega) (by omega)
          rw [w64_id (x := b.2.2.2.1 + 1) (by omega) (by omega), e4]; simp only [Option.bind_some]; rw [specForget_eq hb.small]; simp only [Option.bind_some]
          exact fin c4 _ h4 (forget_ok hb _).1
        · exact fin c3 b h3 hb
      split
      · exact A
      · split
        · exact A
        · split
          · exact A
          · split
            · exact B
            · split
              · exact C
              · exact Dn
    · left
      rw [decide_eq_false k, if_neg (by simp)]
      exact ⟨_, rfl, hb, h1⟩
  obtain ⟨v0, c0, e0, m0, h0⟩ := pick_ok h (l := boxNames) (by decide) (by decide)
  obtain ⟨v1, c1, e1, b1, h1⟩ := below_ok h0 (n := 5) (by omega) (by omega)
  unfold spec_l08Box
  unfold boxNames at e0
  rw [e0]; simp only [Option.bind_some]; rw [e1]; simp only [Option.bind_some]
  rw [w64_id (x := 1 + v1) (by omega) (by omega), specNew_eq (boxName_ok m0) (by omega)]
  simp only [Option.bind_some]
  obtain ⟨y, e, a, b⟩ := key (0, c1, newB v0 (1 + v1)) ⟨by show (0 : Int) ≤ 0 ∧ (0 : Int) ≤ 100; omega, h1, newB_ok (boxName_ok m0) (by omega)⟩
  exact ⟨y.1, y.2, e, a, b⟩
theorem any_box {c : L01Cur} (h : CurOK c) : ∃ v c', spec_l08Any c = some (v, c') ∧ BoxSmall v ∧ CurOK c' := by
  obtain ⟨v1, c1, e1, b1, h1⟩ := below_ok h (n := 16) (by omega) (by omega)
  obtain ⟨v2, c2, e2, b2, h2⟩ := below_ok h1 (n := 60) (by omega) (by omega)
  obtain ⟨b, c3, e3, ob, h3⟩ := box_ok h2
  have s := ob.small
  have l30 := ob.2.2.2.2.2.1
  have l40 := ob.2.2.2.2.2.2.1
  unfold spec_l08Any
  rw [e1]; simp only [Option.bind_some]; rw [e2]; simp only [Option.bind_some]; rw [e3]; simp only [Option.bind_some]; rw [l08Copy_eq s]; simp only [Option.bind_some]
  split
  · have q := Int.tmod_nonneg 3 b2.1
    have q' := Int.tmod_lt_of_pos v2 (b := 3) (by omega)
    obtain ⟨i, hi⟩ := Int.eq_ofNat_of_zero_le q
    obtain ⟨r, hr⟩ := get_of (l := [([] : List UInt8), ([65] : List UInt8), ([116, 111, 111, 108, 111, 110, 103, 110, 97, 109, 101] : List UInt8)]) (i := i) (by simp; omega)
    have hl := short_of (by decide) (List.mem_of_getElem? hr)
    rw [reqO_pos (by omega), reqO_pos (by simp; omega), hi, idxO_nat hr]
    exact ⟨_, _, rfl, ⟨by show r.length < _; omega, s.mails, s.tombs, s.text⟩, h3⟩
  · split
    · rw [reqO_pos (by omega)]
      exact ⟨_, _, rfl, ⟨s.name, s.mails, s.tombs, s.text⟩, h3⟩
    · split
      · have q := Int.tmod_nonneg 4 b2.1
        have q' := Int.tmod_lt_of_pos v2 (b := 4) (by omega)
        obtain ⟨i, hi⟩ := Int.eq_ofNat_of_zero_le q
        obtain ⟨r, hr⟩ := get_of (l := [(0 : Int), (1 : Int), (100000 : Int), (100001 : Int)]) (i := i) (by simp; omega)
        rw [reqO_pos (by omega), reqO_pos (by simp; omega), hi, idxO_nat hr]
        exact ⟨_, _, rfl, ⟨s.name, s.mails, s.tombs, s.text⟩, h3⟩
      · split
        · split
          · rename_i hpos
            have hpos' : (0 : Int) < (b.2.2.2.2.1.length : Int) := by simpa using hpos
            have q := Int.tmod_nonneg (b.2.2.2.2.1.length : Int) b2.1
            have q' := Int.tmod_lt_of_pos v2 hpos'
            rw [reqO_pos (by omega), reqO_pos (by omega), reqO_pos ⟨q, q'⟩]
            refine ⟨_, _, rfl, ⟨s.name, by show (List.modify _ _ _).length < _; rw [List.length_modify]; exact s.mails, s.tombs, fun m hm => ?_⟩, h3⟩
            obtain ⟨j, hj, e⟩ := List.mem_iff_getElem.1 hm
            have hj' : j < b.2.2.2.2.1.length := by simpa using hj
            have := s.text b.2.2.2.2.1[j] (by simp)
            rw [← e]
            dsimp only
            rw [List.getElem_modify]
            split <;> exact this
          · exact ⟨_, _, rfl, s, h3⟩
        · split
          · rw [reqO_pos (by omega), reqO_pos (by omega), reqO_pos (by simp [bound]; omega)]
            exact ⟨_, _, rfl, ⟨s.name, s.mails, by show (b.2.2.2.2.2.1 ++ [_]).length < _; rw [List.length_append]; simp; omega, s.text⟩, h3⟩
          · split
            · rw [reqO_pos (by omega)]
              exact ⟨_, _, rfl, ⟨s.name, s.mails, s.tombs, s.text⟩, h3⟩
            · split
              · rw [reqO_pos (by omega)]
                exact ⟨_, _, rfl, ⟨s.name, s.mails, s.tombs, s.text⟩, h3⟩
              · exact ⟨_, _, rfl, s, h3⟩
theorem any_store {c : L01Cur} (h : CurOK c) : ∃ v c', spec_l09Any c = some (v, c') ∧ StoreSmall v ∧ CurOK c' := by
  obtain ⟨v1, c1, e1, b1, h1⟩ := below_ok h (n := 14) (by omega) (by omega)
  obtain ⟨v2, c2, e2, b2, h2⟩ := below_ok h1 (n := 60) (by omega) (by omega)
  obtain ⟨y, e3, g, h3⟩ := store_ok h2
  have s := g.1.small
  have hl := g.1.2.1
  unfold spec_l09Any
  rw [e1]; simp only [Option.bind_some]; rw [e2]; simp only [Option.bind_some]; rw [e3]; simp only [Option.bind_some]; rw [l09Copy_eq s]; simp only [Option.bind_some]
  split
  · have q := Int.tmod_nonneg 4 b2.1
    have q' := Int.tmod_lt_of_pos v2 (b := 4) (by omega)
    obtain ⟨i, hi⟩ := Int.eq_ofNat_of_zero_le q
    obtain ⟨r, hr⟩ := get_of (l := [(1 : Int), (2 : Int), (9999 : Int), (10000 : Int)]) (i := i) (by simp; omega)
    rw [reqO_pos (by omega), reqO_pos (by simp; omega), hi, idxO_nat hr]
    exact ⟨_, _, rfl, ⟨s.len, s.box⟩, h3⟩
  · split
    · obtain ⟨b, c4, e4, sb, h4⟩ := any_box h3
      rw [e4]; simp only [Option.bind_some]
      rw [reqO_pos (by omega)]
      refine ⟨_, _, rfl, ⟨by show (List.set _ _ _).length < _; rw [List.length_set]; exact s.len, fun x hx => ?_⟩, h4⟩
      rcases List.mem_or_eq_of_mem_set hx with k | k
      · exact s.box x k
      · subst k; exact sb
    · split
      · obtain ⟨r, hr⟩ := get_of (l := y.1.1) (i := 0) (by omega)
        rw [reqO_pos (by omega), show (0 : Int) = ((0 : Nat) : Int) from rfl, idxO_nat hr, reqO_pos (by simp [bound]; omega)]
        refine ⟨_, _, rfl, ⟨by show (y.1.1 ++ [r]).length < _; simp; omega, fun x hx => ?_⟩, h3⟩
        rcases List.mem_append.1 hx with k | k
        · exact s.box x k
        · simp at k; subst k; exact s.box x (List.mem_of_getElem? hr)
      · split
        · rw [reqO_pos (by omega)]
          refine ⟨_, _, rfl, ⟨by show (List.drop _ (List.take _ _)).length < _; rw [List.length_drop, List.length_take]; omega, fun x hx => s.box x (List.mem_of_mem_take (List.mem_of_mem_drop hx))⟩, h3⟩
        · exact ⟨_, _, rfl, s, h3⟩
end Go.M
namespace Go.M
open Go.Ev Go.G
theorem copy_small {s : List Box × Int} (h : StoreSmall s) (src : List UInt8) (S : List (Int × Int)) (dst : List UInt8) : StoreSmall (copyMails s src S dst).1 := by
  by_cases k : (copyMails s src S dst).2 = 0
  · obtain ⟨f, t, d, c⟩ := copyMails_zero k
    exact c.facts.2.2.2.2.2.2.1.small
  · rw [copy_bad k]; exact h
theorem move_small {s : List Box × Int} (h : StoreSmall s) (src : List UInt8) (S : List (Int × Int)) (dst : List UInt8) : StoreSmall (moveMails s src S dst).1 := by
  by_cases k : (moveMails s src S dst).2 = 0
  · obtain ⟨f, t, d, x, m⟩ := move_zero k
    have a := m.facts
    rw [m.eq]
    exact (putBox_ok a.2.2.2 a.1 a.2.2.1).small
  · rw [move_bad k]; exact h
theorem make_small {s : List Box × Int} (h : StoreSmall s) (name : List UInt8) : StoreSmall (makeBox s name).1 := by
  unfold makeBox
  split
  · rename_i k
    split
    · exact h
    · split
      · exact h
      · split
        · exact h
        · rename_i k1 k2 k3
          exact (insB_ok k.1 k.2 (by simpa using k1) k2 k3).small
  · exact h
theorem drop_small {s : List Box × Int} (h : StoreSmall s) (name : List UInt8) : StoreSmall (dropBox s name).1 := by
  by_cases k : StoreOK s
  · exact (dropBox_ok k name).1.small
  · unfold dropBox; rw [if_neg fun e => k e.1]; exact h
theorem put_small {s : List Box × Int} (h : StoreSmall s) {b : Box} (hb : BoxSmall b) : StoreSmall (putBox s b) := by
  refine ⟨by unfold putBox; rw [putL_len]; exact h.len, fun x hx => ?_⟩
  rcases putL_mem b s.1 x hx with e | e
  · subst e; exact hb
  · exact h.box x e
theorem drawCopy_ok {code : List Int} (h : code.length ≤ 1048576) : ∃ y, spec_DrawCopyMails code = some y ∧ StoreSmall y.1 ∧ y.2.2.1.length ≤ 1000 := by
  obtain ⟨c, e, hc⟩ := new_ok h
  obtain ⟨v1, c1, e1, l1, h1⟩ := name_ok hc
  obtain ⟨v2, c2, e2, l2, h2⟩ := name_ok h1
  obtain ⟨v3, c3, e3, l3, h3⟩ := any_set h2
  obtain ⟨v4, c4, e4, s4, h4⟩ := any_store h3
  unfold spec_DrawCopyMails
  rw [e]; simp only [Option.bind_some]; rw [e1]; simp only [Option.bind_some]; rw [e2]; simp only [Option.bind_some]; rw [e3]; simp only [Option.bind_some]; rw [e4]
  exact ⟨_, rfl, s4, l3⟩
theorem drawMake_ok {code : List Int} (h : code.length ≤ 1048576) : ∃ y, spec_DrawMakeBox code = some y ∧ StoreSmall y.1 ∧ y.2.length ≤ 40 := by
  obtain ⟨c, e, hc⟩ := new_ok h
  obtain ⟨v1, c1, e1, l1, h1⟩ := name_ok hc
  obtain ⟨v2, c2, e2, h2⟩ := once_ok h1 (n := 12) (by omega) (by omega)
  obtain ⟨v3, c3, e3, s3, h3⟩ := any_store h2
  unfold spec_DrawMakeBox spec_l09Named
  rw [e]; simp only [Option.bind_some]; rw [e1]; simp only [Option.bind_some]; rw [e2]; simp only [Option.bind_some]; rw [e3]; simp only [Option.bind_some]
  split
  · exact ⟨_, rfl, s3, by simp⟩
  · exact ⟨_, rfl, s3, l1⟩
theorem drawPut_ok {code : List Int} (h : code.length ≤ 1048576) : ∃ y, spec_DrawPutBox code = some y ∧ StoreSmall y.1 ∧ BoxSmall y.2 := by
  obtain ⟨c, e, hc⟩ := new_ok h
  obtain ⟨v1, c1, e1, l1, h1⟩ := any_box hc
  obtain ⟨v3, c3, e3, s3, h3⟩ := any_store h1
  unfold spec_DrawPutBox
  rw [e]; simp only [Option.bind_some]; rw [e1]; simp only [Option.bind_some]; rw [e3]
  exact ⟨_, rfl, s3, l1⟩
theorem storesTold {code : List Int} (hc : code.length ≤ 1048576) : laws_FnStoresTold code = some true := by
  obtain ⟨y, e, s, l⟩ := drawCopy_ok hc
  obtain ⟨x, e1, s1, l1⟩ := drawMake_ok hc
  obtain ⟨z, e2, s2, b2⟩ := drawPut_ok hc
  obtain ⟨n, e3, o3⟩ := implStoreNew
  unfold laws_FnStoresTold laws_big
  simp only [Option.bind_some]
  rw [if_neg (by simp; omega), e]; simp only [Option.bind_some]
  rw [implCopy_eq s (by omega)]; simp only [Option.bind_some]
  rw [specCopy_eq s (by omega)]; simp only [Option.bind_some]
  rw [implMove_eq s (by omega)]; simp only [Option.bind_some]
  rw [specMove_eq s (by omega)]; simp only [Option.bind_some]
  rw [e1]; simp only [Option.bind_some]
  rw [implMake_eq s1 (by omega)]; simp only [Option.bind_some]
  rw [specMake_eq s1 (by omega)]; simp only [Option.bind_some]
  rw [implDrop_eq s1]; simp only [Option.bind_some]
  rw [specDrop_eq s1]; simp only [Option.bind_some]
  rw [e2]; simp only [Option.bind_some]
  rw [e3]; simp only [Option.bind_some]
  simp only [decide_true, if_true, same_self (copy_small s _ _ _), same_self (move_small s _ _ _), same_self (make_small s1 _), same_self (drop_small s1 _), implPut_eq s2 b2, specPut_eq s2 b2, same_self (put_small s2 b2), Option.bind_some, implStoreOk_eq s, specStoreOk_eq s, implStoreOk_eq o3.small, tr_yes o3]
theorem stores_all (code : List Int) : laws_FnStoresTold code = some true := by
  by_cases h : code.length ≤ 1048576
  · exact storesTold h
  · unfold laws_FnStoresTold laws_big
    simp only [Option.bind_some]
    rw [if_pos (by simp; omega)]
end Go.M
