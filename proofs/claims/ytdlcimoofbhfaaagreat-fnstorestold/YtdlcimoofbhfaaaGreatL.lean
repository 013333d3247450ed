/- Contracts of strings.IndexByte, slices.Insert and slices.Delete. -/
import Derived.Test.YtdlcimoofbhfaaaGreatF
import Derived.Test.YtdlcimoofbhfaaaGreatEvU
import Derived.Test.YtdlcimoofbhfaaaGreatProg
import Derived.Lib.Strings
import Derived.Lib.Slices
import Derived.Lib.Walk
import Derived.Lib.Bytealg
import Derived.Test.YtdlcimoofbhfaaaGreatEvTb
import Derived.WalkKit
import Derived.Lib.SliceRun
import Derived.Lib.AppendZeros
import Derived.Lib.AppendZerosOnto
import Derived.Lib.Overlaps
import Derived.Laws.Externs
import Derived.Laws.IdiomCopy
import Derived.Laws.NewBlocks
import Derived.Shelf.Spec.SlicesInsert
import Derived.Test.YtdlcimoofbhfaaaGreatEvP3
import Derived.Deep.LoopGhost
import Derived.Deep.RegionLaw
import Derived.Shelf.RegionOpenPlain
import Derived.KernelRfl
set_option linter.all false
namespace Go.Proofs
set_option maxHeartbeats 1000000 in
set_option maxRecDepth 100000 in
theorem Tryz.stringslite_IndexByte (s : ByteArray) (c : Int) (w : World) :
    Calls Tryz.prog 121 #[.string s, .int .u8 c] w fun e w' => e = .returned (.int .i64 (Lib.indexByte s.data.toList c.toNat.toUInt8)) ∧ w' = w := by
  go_enter Tryz.func121, Tryz.ntmps121
  go_wp2
  rw [run_callFunc_extern Tryz.func122 (by kernel_rfl) (by kernel_rfl) (by kernel_rfl) (e := Extern.BytealgIndexByte.indexByte) (by kernel_rfl), Lib.run_indexByteString]
  simp only [Result.andThen]
  rw [Oper.upon_value]
  go_wp2
  go_ret
  exact ⟨rfl, rfl⟩
set_option maxHeartbeats 1000000 in
theorem Tryz.strings_IndexByte (s : ByteArray) (c : Int) (w : World) :
    Calls Tryz.prog 115 #[.string s, .int .u8 c] w fun e w' => e = .returned (.int .i64 (Lib.indexByte s.data.toList c.toNat.toUInt8)) ∧ w' = w := by
  go_enter Tryz.func115, Tryz.ntmps115
  go_wp2_with (go_at_call 121; refine (Tryz.stringslite_IndexByte _ _ _).mono ?_; rintro e w' ⟨rfl, rfl⟩)
  go_ret
  exact ⟨rfl, rfl⟩
end Go.Proofs
namespace Go.G
open Go.Ev Go.Proofs
theorem index_at (c : UInt8) : ∀ (l : List UInt8) (n : Nat), indexByteAt l (c.toNat : Int) n = if Lib.indexByte l c = -1 then -1 else Lib.indexByte l c + n
  | [], n => by simp [indexByteAt, Lib.indexByte]
  | b :: l, n => by
    have ih := index_at c l (n + 1)
    have hge := Lib.indexByte_ge l c
    unfold indexByteAt Lib.indexByte
    by_cases k : b = c
    · subst k; simp
    · have k' : ¬ ((b.toNat : Int) = (c.toNat : Int)) := fun e => k (UInt8.toNat.inj (by omega))
      rw [if_neg k', ih, if_neg (show ¬ (b == c) = true by simpa using k)]
      by_cases m : Lib.indexByte l c = -1
      · simp [m]
      · have m' : ¬ (Lib.indexByte l c == -1) = true := by simpa using m
        rw [if_neg m, if_neg m', if_neg (by omega)]; omega
theorem fn_strings_IndexByte : FnOk Tryz.prog 115 ⟨⟨[.one (.r .s), .one (.r (.i .u8))], [.one (.r (.i .i64))]⟩, fun x => strings_IndexByte x.1 x.2⟩ where
  call := ⟨Tryz.f115, Tryz.func115, by kernel_rfl, by kernel_rfl⟩
  ok := by
    intro x y hy w Im vs bs bx hIm hp hnd hbs
    simp only [ParsR, ParR, LfR, VR] at hp
    obtain ⟨v, vs', bs1, bs2, bx1, bx2, rfl, rfl, rfl, ⟨rfl, rfl, s, rfl, hs⟩, v', rfl, rfl, rfl, rfl⟩ := hp
    unfold strings_IndexByte at hy
    dsimp only at hy
    split at hy
    · rename_i hc
      injection hy with hy
      refine (Tryz.strings_IndexByte s x.2 w).mono fun e w' hh => ?_
      obtain ⟨rfl, rfl⟩ := hh
      refine ⟨_, [.int .i64 (Lib.indexByte s.data.toList x.2.toNat.toUInt8)], [], rfl, ⟨rfl, rfl, Nat.le_refl _, fun b _ _ => rfl, List.nodup_nil, fun b hb => (by cases hb), ?_⟩⟩
      simp only [OutR, ParR, LfR, VR, List.length_cons, List.length_nil]
      refine ⟨rfl, _, [], rfl, rfl, rfl, ?_⟩
      rw [← hy, ← hs]
      have hx : ((x.2.toNat.toUInt8).toNat : Int) = x.2 := by
        rw [show x.2.toNat.toUInt8 = UInt8.ofNat x.2.toNat from rfl, UInt8.toNat_ofNat']
        omega
      have := index_at x.2.toNat.toUInt8 s.data.toList 0
      rw [hx] at this
      rw [this]
      split
      · rename_i h; rw [h]; simp [VR]
      · simp [VR]
    · cases hy
end Go.G
set_option linter.unusedVariables false
namespace Go.Proofs
open Go.Shelf Go.RowKit Go.Lib
theorem run_copy_rows {P : Program} (w : World) (dT sT ty elem : TypeId) (sz : Nat) (b o dLen dCap : Nat) (a : Addr) (sLen sCap : Nat) (cs : List Value)
    (hu : P.underlying dT = some (.slice elem)) (hs : (P.info? elem).map (·.size) = some sz) (hn : cs.length = Nat.min sLen dLen * sz)
    (hsrc : ∀ j v, cs[j]? = some v → w.cell? (a.add j) = some v) (hc : ∀ j, j < cs.length → (w.cell? ⟨b, o + j, none⟩).isSome = true) (hf : ∀ j, j < cs.length → w.frozen? ⟨b, o + j, none⟩ = false) (h1 : ∀ v ∈ cs, v.oneCell' = true) :
    (Builtin.copy_ #[dT, sT] ty #[.slice (some ⟨b, o, none⟩) dLen dCap, .slice (some a) sLen sCap]).run P w = .ok (goInt (Nat.min sLen dLen)) (w.setCells b o cs) := by
  have hl := run_loadCells_list (P := P) w a cs hsrc
  have hst := run_storeCells_cells (P := P) b o cs 0 w (by simpa using hc) (by simpa using hf) h1
  cases hq : P.info? elem with
  | none => simp [hq] at hs
  | some i =>
    have hi : i.size = sz := by simpa [hq] using hs
    simp [Builtin.copy_, run_underlying hu, Builtin.lenOf, Builtin.firstCells, sizeOf, typeInfo, hq, hi, ← hn, hl, hst]
theorem size38 : (Tryz.prog.info? 38).map (fun i => (i.size, i.bytes)) = some (7, 96) := by kernel_rfl
set_option maxHeartbeats 4000000 in
set_option maxRecDepth 100000 in
theorem insert_shift (b off n c i vb voff vc : Nat) (cs vs : List Value) (w : World) (hi : i < n) (hroom : n + 1 ≤ c) (hc63 : n + 1 ≤ 1073741824) (hvb : vb ≠ b)
    (hcl : cs.length = n * 7) (hvl : vs.length = 7)
    (hcs : ∀ j v, cs[j]? = some v → w.cell? ⟨b, off + j, none⟩ = some v) (hsp : ∀ j, j < (n + 1) * 7 → (w.cell? ⟨b, off + j, none⟩).isSome = true) (hfz : ∀ j, j < (n + 1) * 7 → w.frozen? ⟨b, off + j, none⟩ = false)
    (hvs : ∀ j v, vs[j]? = some v → w.cell? ⟨vb, voff + j, none⟩ = some v) (h1c : ∀ v ∈ cs, v.oneCell' = true) (h1v : ∀ v ∈ vs, v.oneCell' = true)
    (tA tB : TypeId) (kA kB : Nat) (hsa : w.shape? vb = some (tA, kA)) (hsb : w.shape? b = some (tB, kB)) (hkB : kB ≠ 0) (hfa : w.frozen? ⟨vb, voff, none⟩ = false) (hfe : w.frozen? ⟨vb, kA, none⟩ = false) :
    Calls Tryz.prog 53 #[.slice (some ⟨b, off, none⟩) n c, .int .i64 i, .slice (some ⟨vb, voff, none⟩) 1 vc] w fun e w' =>
      e = .returned (.slice (some ⟨b, off, none⟩) (n + 1) c) ∧ w' = (w.drew.setCells b (off + (i + 1) * 7) (cs.drop (i * 7))).setCells b (off + i * 7) vs := by
  have hz2 : ¬ ((i : Int) = (n : Int)) := by omega
  have hsz : (Tryz.prog.info? 38).map (·.size) = some 7 := by
    have := size38
    cases h : Tryz.prog.info? 38 with
    | none => rw [h] at this; cases this
    | some x => rw [h] at this; simp at this; simp [this.1]
  have hov : ∀ o lb cb, (callFunc 92 #[.slice (some ⟨vb, voff, none⟩) 1 vc, .slice (some ⟨b, o, none⟩) lb cb]).run Tryz.prog w = .ok (.value (.bool false)) w := fun o lb cb => by
    rw [run_callFunc_extern Tryz.func92 (by kernel_rfl) (by kernel_rfl) (by kernel_rfl) (e := Extern.SlicesOverlaps.overlaps #[24, 24] #[4]) (by kernel_rfl),
      Lib.run_overlaps_apart w 24 4 38 Tryz.underlying24 7 Tryz.sizeOf38 ⟨vb, voff, none⟩ ⟨b, o, none⟩ 1 vc lb cb hvb tA tB kA kB hsa hsb hkB hfa hfe]
    rfl
  have mixed : Tryz.prog.follows .mixedOrders = true := by kernel_rfl
  have hdl : (cs.drop (i * 7)).length = (n - i) * 7 := by rw [List.length_drop, hcl, Nat.sub_mul]
  have hw1 : IntKind.i64.wrap ((i : Int) + 1) = (i : Int) + 1 := by rw [IntKind.wrap_i64]; omega
  have hb1 : (0 : Int) ≤ (i : Int) + 1 := by omega
  have hin : i ≤ n := by omega
  have htn : ((i : Int) + 1).toNat = i + 1 := by omega
  have hb2 : ¬ (c = i + 1) := by omega
  have hb3 : (i : Int) ≤ (n : Int) + 1 := by omega
  have hb4 : ¬ (c = i) := by omega
  have hmin1 : Nat.min (n + 1 - i) (n - i) = n - i := by simp only [Nat.min_def]; split <;> omega
  have hcp1 : ∀ ty dc sc, (Builtin.copy_ #[24, 24] ty #[.slice (some ⟨b, off + (i + 1) * 7, none⟩) (n - i) dc, .slice (some ⟨b, off + i * 7, none⟩) (n + 1 - i) sc]).run Tryz.prog w.drew = .ok (goInt ((n - i : Nat) : Int)) (w.drew.setCells b (off + (i + 1) * 7) (cs.drop (i * 7))) := fun ty dc sc => by
    have := run_copy_rows w.drew 24 24 ty 38 7 b (off + (i + 1) * 7) (n - i) dc ⟨b, off + i * 7, none⟩ (n + 1 - i) sc (cs.drop (i * 7)) Tryz.underlying24 hsz (by rw [hdl, hmin1])
      (fun j v hj => by rw [Addr.add_lit, Nat.add_assoc]; exact hcs (i * 7 + j) v (by rwa [List.getElem?_drop] at hj))
      (fun j hj => by rw [Nat.add_assoc]; exact hsp _ (by omega)) (fun j hj => by rw [Nat.add_assoc]; exact hfz _ (by omega)) (fun v hv => h1c v (List.mem_of_mem_drop hv))
    rw [hmin1] at this
    exact this
  obtain ⟨W1, hW1⟩ : ∃ W1, W1 = w.drew.setCells b (off + (i + 1) * 7) (cs.drop (i * 7)) := ⟨_, rfl⟩
  have hsp1 : ∀ k, k < (n + 1) * 7 → (W1.cell? ⟨b, off + k, none⟩).isSome = true := fun k hk => by
    rw [hW1]
    exact isSome_setCells b _ _ _ (fun j hj => by rw [Nat.add_assoc]; exact hsp _ (by omega)) _ (hsp k hk)
  have hmin2 : Nat.min 1 (n + 1 - i) = 1 := by simp only [Nat.min_def]; split <;> omega
  have hcp2 : ∀ (W : World), (∀ x, W.cell? x = W1.cell? x) → (∀ x, W.frozen? x = W1.frozen? x) → ∀ ty dc, (Builtin.copy_ #[24, 24] ty #[.slice (some ⟨b, off + i * 7, none⟩) (n + 1 - i) dc, .slice (some ⟨vb, voff, none⟩) 1 vc]).run Tryz.prog W = .ok (goInt 1) (W.setCells b (off + i * 7) vs) := fun W hWc hWf ty dc => by
    have := run_copy_rows W 24 24 ty 38 7 b (off + i * 7) (n + 1 - i) dc ⟨vb, voff, none⟩ 1 vc vs Tryz.underlying24 hsz (by rw [hvl, hmin2])
      (fun j v hj => by
        rw [Addr.add_lit, hWc, hW1, World.cell?_setCells_out b _ _ _ _ (fun h _ => absurd h hvb)]
        exact hvs j v hj)
      (fun j hj => by rw [hWc, Nat.add_assoc]; exact hsp1 _ (by omega)) (fun j hj => by rw [hWf, hW1, World.frozen?_setCells, Nat.add_assoc]; exact hfz _ (by omega)) h1v
    rw [hmin2] at this
    exact this
  rw [← hW1] at hcp1
  go_enter Tryz.func53, Tryz.ntmps53
  go_wp2_with (simp only [hov])
  go_region_law_o (refine step_copy_runI rfl _ _ 24 24 rfl _ _ (by simp [Act.eval, Act.put]) (by simp [Act.eval, Act.put]) (hcp1 _ _ _) ?_)
  go_wp2_with (at_builtin; refine wpList_copy_runI _ rfl _ _ 24 24 rfl _ _ rfl rfl (hcp2 _ (fun _ => rfl) (fun _ => rfl) _ _) ?_)
  go_ret
  first | exact ⟨rfl, rfl⟩ | exact ⟨rfl, by rw [hW1]⟩
theorem info38 : ∃ i z, Tryz.prog.info? 38 = some i ∧ i.zero = some z ∧ i.size = 7 ∧ i.bytes = 96 ∧ z.cells.size = 7 := by
  have h : (Tryz.prog.info? 38).map (fun i => (i.zero.map fun z => z.cells.size, i.size, i.bytes)) = some (some 7, 7, 96) := by kernel_rfl
  cases h1 : Tryz.prog.info? 38 with
  | none => rw [h1] at h; cases h
  | some i =>
    rw [h1] at h
    simp only [Option.map_some, Option.some.injEq, Prod.mk.injEq] at h
    obtain ⟨h2, h3, h4⟩ := h
    cases h5 : i.zero with
    | none => rw [h5] at h2; cases h2
    | some z => rw [h5] at h2; exact ⟨i, z, rfl, h5, h3, h4, by simpa using h2⟩
set_option maxHeartbeats 4000000 in
set_option maxRecDepth 100000 in
theorem insert_end_room (b off n c vb voff vc : Nat) (vs : List Value) (w : World) (hroom : n + 1 ≤ c) (hc63 : n + 1 ≤ 1073741824)
    (hvl : vs.length = 7) (hsp : ∀ j, j < 7 → (w.cell? ⟨b, off + n * 7 + j, none⟩).isSome = true) (hfz : ∀ j, j < 7 → w.frozen? ⟨b, off + n * 7 + j, none⟩ = false)
    (hvs : ∀ j v, vs[j]? = some v → w.cell? ⟨vb, voff + j, none⟩ = some v) (h1v : ∀ v ∈ vs, v.oneCell' = true) :
    Calls Tryz.prog 53 #[.slice (some ⟨b, off, none⟩) n c, .int .i64 n, .slice (some ⟨vb, voff, none⟩) 1 vc] w fun e w' =>
      e = .returned (.slice (some ⟨b, off, none⟩) (n + 1) c) ∧ w' = w.setCells b (off + n * 7) vs := by
  obtain ⟨i0, z, hi0, hz0, hzs, hzb, hzc⟩ := info38
  have mixed : Tryz.prog.follows .mixedOrders = true := by kernel_rfl
  have hrun : ∀ ty, (Builtin.append_ #[24, 24] ty #[.slice (some ⟨b, off, none⟩) n c, .slice (some ⟨vb, voff, none⟩) 1 vc]).run Tryz.prog w = .ok (.slice (some ⟨b, off, none⟩) (n + 1) c) (w.setCells b (off + n * 7) vs) := fun ty => by
    have hf := run_firstCells_some (P := Tryz.prog) w i0.size 1 ⟨vb, voff, none⟩ 1 vc vs (by rw [hvl, hzs]) (fun j v hj => by rw [Addr.add_lit]; exact hvs j v hj)
    have hst := run_storeCells_cells (P := Tryz.prog) b (off + n * 7) vs 0 w (by rw [hvl]; simpa using hsp) (by rw [hvl]; simpa using hfz) h1v
    simp only [Nat.add_zero] at hst
    rw [hzs] at hf
    simp [Builtin.append_, run_underlying Tryz.underlying24, sizeOf, typeInfo, hi0, hzs, Builtin.lenOf, hroom, hf, Addr.add_lit, hst]
  go_enter Tryz.func53, Tryz.ntmps53
  go_wp2_with (at_builtin; refine Lib.wpList_append_run _ rfl _ _ _ _ rfl _ _ rfl rfl _ _ (hrun _) ?_)
  go_ret
  exact ⟨rfl, rfl⟩
set_option maxHeartbeats 4000000 in
set_option maxRecDepth 100000 in
theorem insert_end_grow (b off n c vb voff vc : Nat) (cs vs : List Value) (w : World) (z : Value) (hnc : n ≤ c) (hroom : c < n + 1) (hbig : n + 1 ≤ 1073741824)
    (hz : ∃ i, Tryz.prog.info? 38 = some i ∧ i.zero = some z ∧ i.size = 7 ∧ i.bytes = 96)
    (hcl : cs.length = n * 7) (hvl : vs.length = 7)
    (hcs : ∀ j v, cs[j]? = some v → w.cell? ⟨b, off + j, none⟩ = some v)
    (hvs : ∀ j v, vs[j]? = some v → w.cell? ⟨vb, voff + j, none⟩ = some v) (h1v : ∀ v ∈ vs, v.oneCell' = true) :
    Calls Tryz.prog 53 #[.slice (some ⟨b, off, none⟩) n c, .int .i64 n, .slice (some ⟨vb, voff, none⟩) 1 vc] w fun e w' =>
      e = .returned (.slice (some ⟨w.heap.size, 0, none⟩) (n + 1) (grownCap w (n + 1) c 38)) ∧
      w' = w.drew.alloc (.cells ((cs ++ vs).toArray ++ Builtin.zeroCells z.cells (grownCap w (n + 1) c 38 - (n + 1))) 38) := by
  obtain ⟨i0, hi0, hz0, hzs, hzb⟩ := hz
  have mixed : Tryz.prog.follows .mixedOrders = true := by kernel_rfl
  have hsrc : Src Tryz.prog i0.size 24 (.slice (some ⟨vb, voff, none⟩) 1 vc) 1 vs w := by
    rw [hzs]
    exact Src.ofSlice w Tryz.underlying24 ⟨vb, voff, none⟩ 1 vc vs (by omega) (fun j u hj => by rw [Addr.add_lit]; exact hvs j u hj) h1v
  have hold : (Builtin.firstCells i0.size n (.slice (some ⟨b, off, none⟩) n c)).run Tryz.prog w.drew = .ok cs.toArray w.drew := by
    rw [hzs]
    exact run_firstCells_some w.drew 7 n ⟨b, off, none⟩ n c cs (by omega) (fun j v hj => by rw [Addr.add_lit]; exact hcs j v hj)
  have hrun : ∀ ty, (Builtin.append_ #[24, 24] ty #[.slice (some ⟨b, off, none⟩) n c, .slice (some ⟨vb, voff, none⟩) 1 vc]).run Tryz.prog w = _ := fun ty =>
    run_append_grow_src w 24 24 ty 38 i0 _ Tryz.underlying24 hi0 hz0 (some ⟨b, off, none⟩) n c cs hold _ 1 vs hsrc hroom (by omega) (by rw [hzb]; exact growslice_fits hroom (by omega))
  obtain ⟨ROW, hROW⟩ : ∃ ROW : Array Value, ROW = (cs ++ vs).toArray ++ Builtin.zeroCells z.cells (grownCap w (n + 1) c 38 - (n + 1)) := ⟨_, rfl⟩
  rw [← hROW] at hrun ⊢
  clear hROW
  go_enter Tryz.func53, Tryz.ntmps53
  go_wp2_with (at_builtin; refine Lib.wpList_append_run _ rfl _ _ _ _ rfl _ _ rfl rfl _ _ (hrun _) ?_)
  go_ret
  exact ⟨rfl, rfl⟩
set_option maxHeartbeats 4000000 in
set_option maxRecDepth 100000 in
theorem insert_grow (b off n c i vb voff vc : Nat) (cs vs : List Value) (w : World) (z : Value) (hi : i < n) (hnc : n ≤ c) (hroom : c < n + 1) (hbig : n + 1 ≤ 1073741824)
    (hz : ∃ i, Tryz.prog.info? 38 = some i ∧ i.zero = some z ∧ i.size = 7 ∧ i.bytes = 96) (hz7 : z.cells.size = 7)
    (hcl : cs.length = n * 7) (hvl : vs.length = 7)
    (hcs : ∀ j v, cs[j]? = some v → w.cell? ⟨b, off + j, none⟩ = some v)
    (hvs : ∀ j v, vs[j]? = some v → w.cell? ⟨vb, voff + j, none⟩ = some v) (h1c : ∀ v ∈ cs, v.oneCell' = true) (h1v : ∀ v ∈ vs, v.oneCell' = true) :
    Calls Tryz.prog 53 #[.slice (some ⟨b, off, none⟩) n c, .int .i64 i, .slice (some ⟨vb, voff, none⟩) 1 vc] w fun e w' =>
      e = .returned (.slice (some ⟨w.heap.size, 0, none⟩) (n + 1) (grownCap w (n + 1) c 38)) ∧
      w' = (((w.alloc (.cells ((cs.take (i * 7)).toArray ++ Builtin.zeroCells z.cells (n + 1 - i) ++ Builtin.zeroCells z.cells (grownCap w (n + 1) c 38 - (n + 1))) 38)).drew.setCells w.heap.size (i * 7) vs).drew).setCells w.heap.size ((i + 1) * 7) (cs.drop (i * 7)) := by
  obtain ⟨i0, hi0, hz0, hzs, hzb⟩ := hz
  have mixed : Tryz.prog.follows .mixedOrders = true := by kernel_rfl
  have hz2 : ¬ ((i : Int) = (n : Int)) := by omega
  have hz3 : (c : Int) < (n : Int) + 1 := by omega
  have hsz : (Tryz.prog.info? 38).map (·.size) = some 7 := by rw [hi0]; simp [hzs]
  have hbw : b < w.heap.size := block_lt_of_cell (hcs 0 _ (List.getElem?_eq_getElem (by omega)))
  have hvw : vb < w.heap.size := block_lt_of_cell (hvs 0 _ (List.getElem?_eq_getElem (by omega)))
  have hkk : (n : Int) + 1 - (i : Int) = ((n + 1 - i : Nat) : Int) := by omega
  have hik : i + (n + 1 - i) = n + 1 := by omega
  have hold : (Builtin.firstCells i0.size i (.slice (some ⟨b, off, none⟩) i c)).run Tryz.prog w.drew = .ok (cs.take (i * 7)).toArray w.drew := by
    rw [hzs]
    exact run_firstCells_some w.drew 7 i ⟨b, off, none⟩ i c (cs.take (i * 7)) (by rw [List.length_take]; omega) (fun j v hj => by
      rw [Addr.add_lit]
      rw [List.getElem?_take] at hj
      split at hj
      · exact hcs j v hj
      · cases hj)
  have hrz : ∀ ty, (Builtin.append_ #[24, 3] ty #[.slice (some ⟨b, off, none⟩) i c, .int .i64 ((n : Int) + 1 - (i : Int))]).run Tryz.prog w =
      .ok (.slice (some ⟨w.heap.size, 0, none⟩) (n + 1) (grownCap w (n + 1) c 38)) (w.drew.alloc (.cells ((cs.take (i * 7)).toArray ++ Builtin.zeroCells z.cells (n + 1 - i) ++ Builtin.zeroCells z.cells (grownCap w (n + 1) c 38 - (n + 1))) 38)) := fun ty => by
    have h := Lib.run_append_grow_zeros w 24 3 ty 38 i0 _ .i64 .i64 Tryz.underlying24 Tryz.underlying3 hi0 hz0 (some ⟨b, off, none⟩) i c (cs.take (i * 7)) hold (n + 1 - i) (by omega) (by omega) (by omega) (by omega) (by rw [hzb]; omega) (by rw [hzb, hik]; exact growslice_fits hroom (by omega))
    rw [hik] at h
    rw [hkk]
    exact h
  obtain ⟨G, hG⟩ : ∃ G, G = grownCap w (n + 1) c 38 := ⟨_, rfl⟩
  obtain ⟨ROW, hROW⟩ : ∃ ROW : Array Value, ROW = (cs.take (i * 7)).toArray ++ Builtin.zeroCells z.cells (n + 1 - i) ++ Builtin.zeroCells z.cells (G - (n + 1)) := ⟨_, rfl⟩
  rw [← hG] at hrz ⊢
  rw [← hROW] at hrz ⊢
  have hRl : (n + 1) * 7 ≤ ROW.size := by
    rw [hROW]
    simp [Builtin.zeroCells, hz7]
    omega
  obtain ⟨W1, hW1⟩ : ∃ W1, W1 = w.drew.alloc (.cells ROW 38) := ⟨_, rfl⟩
  rw [← hW1] at hrz
  have hN : ∀ j, j < (n + 1) * 7 → (W1.cell? ⟨w.heap.size, j, none⟩).isSome = true := fun j hj => by
    rw [hW1, World.cell?_alloc_at (w := w.drew) ROW _ w.heap.size j rfl, Array.getElem?_eq_getElem (by omega)]; rfl
  have hNf : ∀ j, W1.frozen? ⟨w.heap.size, j, none⟩ = false := fun j => by rw [hW1]; exact World.frozen?_alloc_at (w := w.drew) ROW _ w.heap.size j rfl
  have hOb : ∀ j v, w.cell? ⟨b, j, none⟩ = some v → W1.cell? ⟨b, j, none⟩ = some v := fun j v h => by rw [hW1, World.cell?_alloc_past (w := w.drew) _ b j hbw]; exact h
  have hOv : ∀ j v, w.cell? ⟨vb, j, none⟩ = some v → W1.cell? ⟨vb, j, none⟩ = some v := fun j v h => by rw [hW1, World.cell?_alloc_past (w := w.drew) _ vb j hvw]; exact h
  have hmin2 : Nat.min 1 (n + 1 - i) = 1 := by simp only [Nat.min_def]; split <;> omega
  have hcpA : ∀ (W : World), (∀ x, W.cell? x = W1.cell? x) → (∀ x, W.frozen? x = W1.frozen? x) → ∀ ty dc, (Builtin.copy_ #[24, 24] ty #[.slice (some ⟨w.heap.size, i * 7, none⟩) (n + 1 - i) dc, .slice (some ⟨vb, voff, none⟩) 1 vc]).run Tryz.prog W = .ok (goInt 1) (W.setCells w.heap.size (i * 7) vs) := fun W hWc hWf ty dc => by
    have := run_copy_rows W 24 24 ty 38 7 w.heap.size (i * 7) (n + 1 - i) dc ⟨vb, voff, none⟩ 1 vc vs Tryz.underlying24 hsz (by rw [hvl, hmin2])
      (fun j v hj => by rw [Addr.add_lit, hWc]; exact hOv _ v (hvs j v hj))
      (fun j hj => by rw [hWc]; exact hN _ (by omega)) (fun j hj => by rw [hWf]; exact hNf _) h1v
    rw [hmin2] at this
    exact this
  have hGn : n + 1 ≤ G := by rw [hG]; exact grownCap_ge w _ _ _
  have hG63 : G ≤ 9223372036854775807 := by
    have := grownCap_le_maxLen w (n + 1) c 38 (by unfold maxLen; omega)
    rw [← hG] at this
    unfold maxLen at this
    omega
  have hGi : ¬ (G = i) := by omega
  have hGim : ¬ (G = i + 1) := by omega
  have hci : ¬ (c = i) := by omega
  have hbN : b ≠ w.heap.size := by omega
  have hdl : (cs.drop (i * 7)).length = (n - i) * 7 := by rw [List.length_drop, hcl, Nat.sub_mul]
  have hmin3 : Nat.min (n - i) (n - i) = n - i := Nat.min_self _
  have hcpB : ∀ (W : World), (∀ x, W.cell? x = (W1.setCells w.heap.size (i * 7) vs).cell? x) → (∀ x, W.frozen? x = (W1.setCells w.heap.size (i * 7) vs).frozen? x) → ∀ ty dc sc, (Builtin.copy_ #[24, 24] ty #[.slice (some ⟨w.heap.size, (i + 1) * 7, none⟩) (n - i) dc, .slice (some ⟨b, off + i * 7, none⟩) (n - i) sc]).run Tryz.prog W = .ok (goInt ((n - i : Nat) : Int)) (W.setCells w.heap.size ((i + 1) * 7) (cs.drop (i * 7))) := fun W hWc hWf ty dc sc => by
    have := run_copy_rows W 24 24 ty 38 7 w.heap.size ((i + 1) * 7) (n - i) dc ⟨b, off + i * 7, none⟩ (n - i) sc (cs.drop (i * 7)) Tryz.underlying24 hsz (by rw [hdl, hmin3])
      (fun j v hj => by
        rw [Addr.add_lit, hWc, World.cell?_setCells_out _ _ _ _ _ (fun h _ => absurd h hbN), Nat.add_assoc]
        exact hOb _ v (hcs (i * 7 + j) v (by rwa [List.getElem?_drop] at hj)))
      (fun j hj => by rw [hWc]; exact isSome_setCells _ _ _ _ (fun t ht => hN _ (by omega)) _ (hN _ (by omega)))
      (fun j hj => by rw [hWf, World.frozen?_setCells]; exact hNf _) (fun v hv => h1c v (List.mem_of_mem_drop hv))
    rw [hmin3] at this
    exact this
  subst hW1
  have hE1 : ∀ x, ((w.alloc (.cells ROW 38)).drew).cell? x = (w.drew.alloc (.cells ROW 38)).cell? x := fun x => rfl
  have hE2 : ∀ x, ((w.alloc (.cells ROW 38)).drew).frozen? x = (w.drew.alloc (.cells ROW 38)).frozen? x := fun x => rfl
  have hF1 : ∀ x, (((w.alloc (.cells ROW 38)).drew.setCells w.heap.size (i * 7) vs).drew).cell? x = ((w.drew.alloc (.cells ROW 38)).setCells w.heap.size (i * 7) vs).cell? x := fun x => rfl
  have hF2 : ∀ x, (((w.alloc (.cells ROW 38)).drew.setCells w.heap.size (i * 7) vs).drew).frozen? x = ((w.drew.alloc (.cells ROW 38)).setCells w.heap.size (i * 7) vs).frozen? x := fun x => rfl
  have hw1 : IntKind.i64.wrap ((i : Int) + 1) = (i : Int) + 1 := by rw [IntKind.wrap_i64]; omega
  have hb1 : (0 : Int) ≤ (i : Int) + 1 := by omega
  have hin : i ≤ n := by omega
  have htn : ((i : Int) + 1).toNat = i + 1 := by omega
  have hb3 : (i : Int) ≤ (n : Int) := by omega
  clear hkk hik hold hROW hG hRl
  go_enter Tryz.func53, Tryz.ntmps53
  go_wp2_with (first
    | (at_builtin; refine Lib.wpList_append_run _ rfl _ _ _ _ rfl _ _ rfl rfl _ _ (hrz _) ?_)
    | (at_builtin; refine wpList_copy_runI _ rfl _ _ 24 24 rfl _ _ rfl rfl (hcpA _ hE1 hE2 _ _) ?_)
    | (at_builtin; refine wpList_copy_runI _ rfl _ _ 24 24 rfl _ _ rfl rfl (hcpB _ (fun _ => rfl) (fun _ => rfl) _ _ _) ?_))
  go_region_law_o (refine step_copy_runI rfl _ _ 24 24 rfl (.slice (some ⟨w.heap.size, (i + 1) * 7, none⟩) (n - i) (G - (i + 1))) (.slice (some ⟨b, off + i * 7, none⟩) (n - i) (c - i)) (by simp [Act.eval, Act.put]) (by simp [Act.eval, Act.put]) (hcpB _ hF1 hF2 3 (G - (i + 1)) (c - i)) ?_)
  go_wp2
  go_ret
  exact ⟨rfl, rfl⟩
end Go.Proofs
namespace Go.Ev
open Go.Proofs
structure Wrote (w w' : World) (b : Nat) : Prop where
  size : w'.heap.size = w.heap.size
  other : ∀ k, k ≠ b → w'.heap[k]? = w.heap[k]?
  out : outside w' = outside w
  here : ∀ cs e fz, w.heap[b]? = some (.cells cs e fz) → ∃ cs' : Array Value, w'.heap[b]? = some (.cells cs' e fz) ∧ cs'.size = cs.size
theorem Wrote.refl (w : World) (b : Nat) : Wrote w w b := ⟨rfl, fun _ _ => rfl, rfl, fun cs e fz h => ⟨cs, h, rfl⟩⟩
theorem Wrote.drew (w : World) (b : Nat) : Wrote w w.drew b := ⟨rfl, fun _ _ => rfl, rfl, fun cs e fz h => ⟨cs, h, rfl⟩⟩
theorem Wrote.trans {w w' w'' : World} {b : Nat} (h : Wrote w w' b) (h' : Wrote w' w'' b) : Wrote w w'' b :=
  ⟨by rw [h'.size, h.size], fun k hk => by rw [h'.other k hk, h.other k hk], by rw [h'.out, h.out], fun cs e fz hb => by
    obtain ⟨cs1, h1, h2⟩ := h.here cs e fz hb
    obtain ⟨cs2, h3, h4⟩ := h'.here cs1 e fz h1
    exact ⟨cs2, h3, by rw [h4, h2]⟩⟩
theorem Wrote.one (w : World) (b o : Nat) (v : Value) : Wrote w (w.setCell ⟨b, o, none⟩ v) b where
  size := by simp [World.setCell]
  other := fun k hk => by simp [World.setCell, Array.getElem?_modify, Ne.symm hk]
  out := rfl
  here := fun cs e fz h => ⟨cs.setIfInBounds o v, by simp [World.setCell, Array.getElem?_modify, h], by simp⟩
theorem Wrote.cells (b : Nat) : ∀ (vs : List Value) (o : Nat) (w : World), Wrote w (w.setCells b o vs) b
  | [], _, w => Wrote.refl w b
  | v :: r, o, w => (Wrote.one w b o v).trans (Wrote.cells b r (o + 1) _)
theorem cells_in {b : Nat} {vs : List Value} {o : Nat} {w : World} (h : ∀ j, j < vs.length → (w.cell? ⟨b, o + j, none⟩).isSome = true) {j : Nat} {v : Value} (hj : vs[j]? = some v) : (w.setCells b o vs).cell? ⟨b, o + j, none⟩ = some v := by
  obtain ⟨hlt, e⟩ := List.getElem?_eq_some_iff.1 hj
  rw [World.cell?_setCells_in b vs o w h j hlt, e]
theorem cells3 {w : World} {b off : Nat} {A V T : List Value} (hA : ∀ j v, A[j]? = some v → w.cell? ⟨b, off + j, none⟩ = some v) (hV : ∀ j v, V[j]? = some v → w.cell? ⟨b, off + A.length + j, none⟩ = some v)
    (hT : ∀ j v, T[j]? = some v → w.cell? ⟨b, off + (A.length + V.length) + j, none⟩ = some v) : ∀ j v, (A ++ V ++ T)[j]? = some v → w.cell? ⟨b, off + j, none⟩ = some v := by
  intro j v hj
  by_cases h1 : j < A.length
  · rw [List.append_assoc, List.getElem?_append_left h1] at hj
    exact hA j v hj
  · by_cases h2 : j < A.length + V.length
    · rw [List.append_assoc, List.getElem?_append_right (by omega), List.getElem?_append_left (by omega)] at hj
      have := hV _ v hj
      rwa [show off + A.length + (j - A.length) = off + j by omega] at this
    · rw [List.getElem?_append_right (by simp; omega)] at hj
      have := hT _ v hj
      rwa [List.length_append, show off + (A.length + V.length) + (j - (A.length + V.length)) = off + j by omega] at this
def insSig (rs : List Sh) : Sig := ⟨[.one (.o rs), .one (.r (.i .i64)), .one (.o rs)], [.one (.o rs)]⟩
theorem ins_close {P : Program} {rs : List Sh} {w w' : World} {Im : IM} {bs : List Nat} {y : List (tyL rs)} {us' : List Value} {b' o' cap' : Nat} {cs' : Array Value} {e' : TypeId} {fz' : Nat × Nat} {e : Ending}
    (he : e = .returned (.slice (some ⟨b', o', none⟩) y.length cap')) (hq : outside w' = outside w) (hsz : w.heap.size ≤ w'.heap.size) (kept : ∀ k, k < w.heap.size → k ∉ bs → w'.heap[k]? = w.heap[k]?)
    (hb' : (b' ∈ bs ∨ w.heap.size ≤ b') ∧ b' < w'.heap.size) (hcap : y.length ≤ cap') (hheap : w'.heap[b']? = some (.cells cs' e' fz')) (hfz : freeB rs fz' cs'.size) (hfit : o' + cap' * rs.length ≤ cs'.size)
    (hR : Rows P w Im rs y us') (hIm : ∀ b, Im b → b < w.heap.size ∧ b ∉ bs) (hcells : ∀ j u, us'[j]? = some u → w'.cell? ⟨b', o' + j, none⟩ = some u) :
    ∃ v us bs'', e = .returned v ∧ After P (insSig rs) y w Im bs [] v w' us bs'' := by
  refine ⟨_, [.slice (some ⟨b', o', none⟩) y.length cap'], [b'], he, ⟨rfl, hq, hsz, kept, by simp, fun b hb => by simp at hb; subst hb; exact hb', ?_⟩⟩
  simp only [insSig, OutR, ParR, LfR, List.length_cons, List.length_nil]
  refine ⟨rfl, _, [], rfl, rfl, .inr ⟨b', o', cap', cs', e', fz', rfl, rfl, hcap, hheap, hfz, hfit, fun k r hr => ?_⟩⟩
  have hm : ∀ b, Im b → ((Im b ∨ w.heap.size ≤ b ∨ b ∈ bs) ∧ b < w'.heap.size ∧ b ∉ [b']) ∧ w'.heap[b]? = w.heap[b]? := fun b hb => by
    obtain ⟨h1, h2⟩ := hIm b hb
    refine ⟨⟨.inl hb, by omega, fun h => ?_⟩, kept b h1 h2⟩
    simp at h; subst h
    rcases hb'.1 with h | h
    · exact h2 h
    · omega
  obtain ⟨vs, h1, h2⟩ := (hR.mono hm).get k r hr
  exact ⟨vs, h1, fun j u hj => by rw [Nat.add_assoc]; exact hcells _ u (h2 j u hj)⟩
theorem insert_ok (rs : List Sh) (hk : rs.length = 7) (hu8 : rs ≠ [.i .u8]) (l m : List (tyL rs)) (i : Nat) (hm : m.length = 1) (hl : 1 ≤ l.length) (hi : i ≤ l.length) (hbd : l.length + 1 ≤ 1073741824) :
    Ok Tryz.prog 53 (insSig rs) (l, (i : Int), m) (l.take i ++ m ++ l.drop i : List (tyL rs)) := by
  intro w Im vs bs bx hIm hp hnd hbs
  simp only [insSig, ParsR, ParR, LfR, VR] at hp
  obtain ⟨v1, vs1, bs1, bs2, bx1, bx2, rfl, rfl, rfl, ⟨rfl, h1⟩, v2, vs2, bs3, bs4, bx3, bx4, rfl, rfl, rfl, ⟨rfl, rfl, rfl⟩, v3, rfl, rfl, h3⟩ := hp
  rcases h1 with ⟨e, _⟩ | ⟨b, o, cap, cs, e, fz, rfl, rfl, hcap, hheap, hfz, hfit, hrows⟩
  · rw [e] at hl; simp at hl
  rcases h3 with ⟨e3, _⟩ | ⟨vb, vo, vcap, vcs, ve, vfz, rfl, rfl, hvcap, hvheap, hvfz, hvfit, hvrows⟩
  · rw [e3] at hm; simp at hm
  obtain ⟨us, hR, hU⟩ := Rows.of (P := Tryz.prog) (w := w) (Im := Im) l (fun k => w.cell? ⟨b, k, none⟩) o hrows
  obtain ⟨vs, hV, hVc⟩ := Rows.of (P := Tryz.prog) (w := w) (Im := Im) m (fun k => w.cell? ⟨vb, k, none⟩) vo hvrows
  have hul := hR.length
  have hvl := hV.length
  rw [hk] at hul hvl
  rw [hm, Nat.one_mul] at hvl
  have hbw := (hbs b (by simp)).1
  have hvb : vb ≠ b := by
    have := hnd
    simp at this
    exact fun e => this e.symm
  have hIm' : ∀ k, Im k → k < w.heap.size ∧ k ∉ [b] ++ ([] ++ [vb]) := fun k hk => ⟨hIm k hk, fun h => (hbs k h).2 hk⟩
  have one := hR.ones
  have onev := hV.ones
  rw [hk] at hfit hvfit
  obtain ⟨i0, z, hi0, hz0, hzs, hzb, hz7⟩ := info38
  have cellS : ∀ k, k < cs.size → (w.cell? ⟨b, k, none⟩).isSome = true := fun k hk => by
    simp only [World.cell?, hheap, Option.isSome_none, Bool.false_eq_true, if_false]
    rw [Array.getElem?_eq_getElem hk]; rfl
  have frz : ∀ k, k < cs.size → w.frozen? ⟨b, k, none⟩ = false := fun k hk => by
    simp only [World.frozen?, hheap]
    have := hfz.1 k hk
    simpa using this
  have hyl : (l.take i ++ m ++ l.drop i).length = l.length + 1 := by simp [hm]; omega
  have hR' : Rows Tryz.prog w Im rs (l.take i ++ m ++ l.drop i) (us.take (i * 7) ++ vs ++ us.drop (i * 7)) := by
    have := ((hR.take i).append hV).append (hR.drop i)
    rwa [hk] at this
  have hAl : (us.take (i * 7)).length = i * 7 := by rw [List.length_take]; omega
  rw [hm]
  by_cases hroom : l.length + 1 ≤ cap
  · have hcapfit : (l.length + 1) * 7 ≤ cap * 7 := Nat.mul_le_mul_right _ hroom
    by_cases hin : i = l.length
    · subst hin
      refine (insert_end_room b o l.length cap vb vo vcap vs w hroom hbd hvl (fun j hj => cellS _ (by omega)) (fun j hj => frz _ (by omega)) hVc onev).mono fun e w' hh => ?_
      obtain ⟨he, rfl⟩ := hh
      have W := Wrote.cells b vs (o + l.length * 7) w
      obtain ⟨cs', hc1, hc2⟩ := W.here _ _ _ hheap
      refine ins_close (by rw [hyl]; exact he) W.out (by rw [W.size]; exact Nat.le_refl _) (fun k hk hn => W.other k (by simp at hn; exact hn.1)) ⟨.inl (by simp), by rw [W.size]; exact hbw⟩ (by rw [hyl]; exact hroom) hc1 (by rw [hc2]; exact hfz) (by rw [hc2, hk]; exact hfit) hR' hIm' ?_
      refine cells3 (fun j v hj => ?_) (fun j v hj => ?_) (fun j v hj => ?_)
      · have hjl := (List.getElem?_eq_some_iff.1 hj).1
        rw [World.cell?_setCells_out _ _ _ _ _ (fun _ _ => by show o + j < _ ∨ _; omega)]
        rw [List.getElem?_take] at hj
        split at hj
        · exact hU j v hj
        · cases hj
      · rw [hAl]
        exact cells_in (fun j hj => cellS _ (by omega)) hj
      · rw [List.drop_eq_nil_of_le (by omega)] at hj; simp at hj
    · have hlt : i < l.length := by omega
      refine (insert_shift b o l.length cap i vb vo vcap us vs w hlt hroom hbd hvb hul hvl hU (fun j hj => cellS _ (by omega)) (fun j hj => frz _ (by omega)) hVc one onev ve e vcs.size cs.size (by simp [World.shape?, hvheap]) (by simp [World.shape?, hheap]) (by omega) ?_ ?_).mono fun e w' hh => ?_
      · simp only [World.frozen?, hvheap]
        have := hvfz.1 vo (by omega)
        simpa using this
      · simp only [World.frozen?, hvheap]
        rcases hvfz.2 with h | h
        · exact absurd h hu8
        · simpa using h
      · obtain ⟨he, rfl⟩ := hh
        have W := ((Wrote.drew w b).trans (Wrote.cells b (us.drop (i * 7)) (o + (i + 1) * 7) w.drew)).trans (Wrote.cells b vs (o + i * 7) _)
        obtain ⟨cs', hc1, hc2⟩ := W.here _ _ _ hheap
        have hdl : (us.drop (i * 7)).length = (l.length - i) * 7 := by rw [List.length_drop, hul, Nat.sub_mul]
        have some1 : ∀ j, j < (us.drop (i * 7)).length → (w.drew.cell? ⟨b, o + (i + 1) * 7 + j, none⟩).isSome = true := fun j hj => cellS _ (by omega)
        refine ins_close (by rw [hyl]; exact he) W.out (by rw [W.size]; exact Nat.le_refl _) (fun k hk hn => W.other k (by simp at hn; exact hn.1)) ⟨.inl (by simp), by rw [W.size]; exact hbw⟩ (by rw [hyl]; exact hroom) hc1 (by rw [hc2]; exact hfz) (by rw [hc2, hk]; exact hfit) hR' hIm' ?_
        refine cells3 (fun j v hj => ?_) (fun j v hj => ?_) (fun j v hj => ?_)
        · have hjl := (List.getElem?_eq_some_iff.1 hj).1
          rw [World.cell?_setCells_out _ _ _ _ _ (fun _ _ => by show o + j < _ ∨ _; omega), World.cell?_setCells_out _ _ _ _ _ (fun _ _ => by show o + j < _ ∨ _; omega)]
          rw [List.getElem?_take] at hj
          split at hj
          · exact hU j v hj
          · cases hj
        · rw [hAl]
          exact cells_in (fun j hj => isSome_setCells b _ _ _ some1 _ (cellS _ (by omega))) hj
        · rw [hAl, World.cell?_setCells_out _ _ _ _ _ (fun _ _ => by show _ ∨ o + i * 7 + vs.length ≤ o + (i * 7 + vs.length) + j; omega), hvl, show o + (i * 7 + 7) + j = o + (i + 1) * 7 + j by omega]
          exact cells_in some1 hj
  · have hz : ∃ i, Tryz.prog.info? 38 = some i ∧ i.zero = some z ∧ i.size = 7 ∧ i.bytes = 96 := ⟨i0, hi0, hz0, hzs, hzb⟩
    by_cases hin : i = l.length
    · subst hin
      refine (insert_end_grow b o l.length cap vb vo vcap us vs w z hcap (by omega) hbd hz hul hvl hU hVc onev).mono fun e w' hh => ?_
      obtain ⟨he, rfl⟩ := hh
      have hG := grownCap_ge w (l.length + 1) cap 38
      obtain ⟨ROW, hROW⟩ : ∃ ROW : Array Value, ROW = (us ++ vs).toArray ++ Builtin.zeroCells z.cells (grownCap w (l.length + 1) cap 38 - (l.length + 1)) := ⟨_, rfl⟩
      rw [← hROW]
      have hRs : ROW.size = grownCap w (l.length + 1) cap 38 * 7 := by
        rw [hROW]
        simp [Builtin.zeroCells, hz7, hul, hvl]
        omega
      refine ins_close (by rw [hyl]; exact he) rfl (by show w.heap.size ≤ (w.heap.push _).size; rw [Array.size_push]; omega) (fun k hk hn => by show (w.heap.push _)[k]? = _; rw [Array.getElem?_push, if_neg (by omega)])
        ⟨.inr (Nat.le_refl _), by show w.heap.size < (w.heap.push _).size; rw [Array.size_push]; omega⟩ (by rw [hyl]; exact hG) (cs' := ROW) (e' := 38) (fz' := (0, 0)) (by show (w.heap.push _)[w.heap.size]? = _; simp) (freeB_zero _ _) (by rw [hRs, hk]; omega) hR' hIm' ?_
      intro j v hj
      rw [Nat.zero_add, World.cell?_alloc_at (w := w.drew) ROW _ w.heap.size j rfl, hROW]
      rw [List.drop_eq_nil_of_le (by omega), List.append_nil, List.take_of_length_le (by omega)] at hj
      have hjl := (List.getElem?_eq_some_iff.1 hj).1
      rw [Array.getElem?_append_left (by simpa using hjl)]
      simpa using hj
    · have hlt : i < l.length := by omega
      refine (insert_grow b o l.length cap i vb vo vcap us vs w z hlt hcap (by omega) hbd hz hz7 hul hvl hU hVc one onev).mono fun e w' hh => ?_
      obtain ⟨he, rfl⟩ := hh
      have hG := grownCap_ge w (l.length + 1) cap 38
      obtain ⟨G, hGe⟩ : ∃ G, G = grownCap w (l.length + 1) cap 38 := ⟨_, rfl⟩
      rw [← hGe] at hG he ⊢
      obtain ⟨ROW, hROW⟩ : ∃ ROW : Array Value, ROW = (us.take (i * 7)).toArray ++ Builtin.zeroCells z.cells (l.length + 1 - i) ++ Builtin.zeroCells z.cells (G - (l.length + 1)) := ⟨_, rfl⟩
      rw [← hROW]
      have hRs : ROW.size = G * 7 := by
        rw [hROW]
        simp [Builtin.zeroCells, hz7, hul]
        omega
      have hdl : (us.drop (i * 7)).length = (l.length - i) * 7 := by rw [List.length_drop, hul, Nat.sub_mul]
      obtain ⟨W0, hW0⟩ : ∃ W0, W0 = (w.alloc (.cells ROW 38)).drew := ⟨_, rfl⟩
      rw [← hW0]
      have h0heap : W0.heap = w.heap.push (.cells ROW 38) := by rw [hW0]; rfl
      have h0 : W0.heap[w.heap.size]? = some (.cells ROW 38 (0, 0)) := by rw [h0heap]; simp
      have W := ((Wrote.cells w.heap.size vs (i * 7) W0).trans (Wrote.drew _ _)).trans (Wrote.cells w.heap.size (us.drop (i * 7)) ((i + 1) * 7) _)
      obtain ⟨cs', hc1, hc2⟩ := W.here _ _ _ h0
      have cell0 : ∀ k, k < ROW.size → (W0.cell? ⟨w.heap.size, k, none⟩).isSome = true := fun k hk => by
        simp only [World.cell?, h0, Option.isSome_none, Bool.false_eq_true, if_false]
        rw [Array.getElem?_eq_getElem hk]; rfl
      have someV : ∀ j, j < vs.length → (W0.cell? ⟨w.heap.size, i * 7 + j, none⟩).isSome = true := fun j hj => cell0 _ (by omega)
      have someT : ∀ j, j < (us.drop (i * 7)).length → ((W0.setCells w.heap.size (i * 7) vs).drew.cell? ⟨w.heap.size, (i + 1) * 7 + j, none⟩).isSome = true := fun j hj => isSome_setCells w.heap.size vs (i * 7) W0 someV _ (cell0 _ (by omega))
      refine ins_close (by rw [hyl]; exact he) (by rw [W.out, hW0]; rfl) (by rw [W.size, h0heap, Array.size_push]; omega) (fun k hk hn => by rw [W.other k (by omega), h0heap, Array.getElem?_push, if_neg (by omega)])
        ⟨.inr (Nat.le_refl _), by rw [W.size, h0heap, Array.size_push]; omega⟩ (by rw [hyl]; exact hG) hc1 (by rw [hc2]; exact freeB_zero _ _) (by rw [hc2, hRs, hk]; omega) hR' hIm' ?_
      refine cells3 (fun j v hj => ?_) (fun j v hj => ?_) (fun j v hj => ?_)
      · have hjl := (List.getElem?_eq_some_iff.1 hj).1
        rw [Nat.zero_add, World.cell?_setCells_out _ _ _ _ _ (fun _ _ => by show j < _ ∨ _; omega)]
        show (W0.setCells w.heap.size (i * 7) vs).cell? _ = _
        rw [World.cell?_setCells_out _ _ _ _ _ (fun _ _ => by show j < _ ∨ _; omega)]
        simp only [World.cell?, h0, Option.isSome_none, Bool.false_eq_true, if_false]
        rw [hROW, Array.append_assoc, Array.getElem?_append_left (by simpa using hjl)]
        simpa using hj
      · have hjl := (List.getElem?_eq_some_iff.1 hj).1
        rw [hAl, Nat.zero_add, World.cell?_setCells_out _ _ _ _ _ (fun _ _ => by show i * 7 + j < _ ∨ _; omega)]
        exact cells_in someV hj
      · rw [hAl, hvl, show 0 + (i * 7 + 7) + j = (i + 1) * 7 + j by omega]
        exact cells_in someT hj
end Go.Ev
namespace Go.Proofs
open Go.Shelf Go.RowKit Go.Lib
def zc7 : List Value := [.string ⟨#[]⟩, .int .i64 0, .int .i64 0, .int .i64 0, .slice none 0 0, .slice none 0 0, .int .i64 0]
theorem clear_one (W : World) (ty : TypeId) (b o c : Nat) (hc : ∀ j, j < 7 → (W.cell? ⟨b, o + j, none⟩).isSome = true) (hf : ∀ j, j < 7 → W.frozen? ⟨b, o + j, none⟩ = false) :
    (Builtin.clear_ #[24] ty #[.slice (some ⟨b, o, none⟩) 1 c]).run Tryz.prog W = .ok (.tuple #[]) (W.setCells b o zc7) := by
  have h1 : ∀ v ∈ zc7, v.oneCell' = true := by intro v hv; simp [zc7] at hv; rcases hv with rfl | rfl | rfl | rfl | rfl | rfl | rfl <;> rfl
  have hst := run_storeCells_cells (P := Tryz.prog) b o zc7 0 W (by simpa [zc7] using hc) (by simpa [zc7] using hf) h1
  simp only [Nat.add_zero] at hst
  have hz : (Builtin.zeroCells (Value.agg #[Value.string { data := #[] }, Value.int IntKind.i64 0, Value.int IntKind.i64 0, Value.int IntKind.i64 0, Value.slice none 0 0, Value.slice none 0 0, Value.int IntKind.i64 0]).cells 1).toList = zc7 := by kernel_rfl
  simp [Builtin.clear_, run_underlying Tryz.underlying24, Tryz.zeroValue38] at *
  simp [hz, hst]
set_option maxHeartbeats 4000000 in
set_option maxRecDepth 100000 in
theorem delete_walk (b off n c i j : Nat) (cs : List Value) (w : World) (hij : j = i + 1) (hj : j ≤ n) (hnc : n ≤ c) (hbd : n ≤ 1073741824) (hcl : cs.length = n * 7)
    (hcs : ∀ j v, cs[j]? = some v → w.cell? ⟨b, off + j, none⟩ = some v) (hfz : ∀ j, j < n * 7 → w.frozen? ⟨b, off + j, none⟩ = false) (h1c : ∀ v ∈ cs, v.oneCell' = true) :
    Calls Tryz.prog 56 #[.slice (some ⟨b, off, none⟩) n c, .int .i64 i, .int .i64 j] w fun e w' =>
      e = .returned (.slice (some ⟨b, off, none⟩) (i + (n - j)) c) ∧ w' = (w.drew.setCells b (off + i * 7) (cs.drop (j * 7))).setCells b (off + (i + (n - j)) * 7) zc7 := by
  obtain ⟨i0, z0, hi0, hz0, hzs, hzb, hzc⟩ := info38
  have mixed : Tryz.prog.follows .mixedOrders = true := by kernel_rfl
  have hlt : i < j := by omega
  have hne : ¬ ((i : Int) = (j : Int)) := by omega
  obtain ⟨news, hnews⟩ : ∃ news, news = cs.drop (j * 7) := ⟨_, rfl⟩
  have hlen : news.length = (n - j) * 7 := by rw [hnews, List.length_drop, hcl, Nat.sub_mul]
  have hsome : ∀ k, k < n * 7 → (w.cell? ⟨b, off + k, none⟩).isSome = true := fun k hk => by rw [hcs k _ (List.getElem?_eq_getElem (by omega))]; rfl
  obtain ⟨A, hA, hsrc⟩ : ∃ A : Addr, (if c = j then some (⟨b, off, none⟩ : Addr) else some ⟨b, off + j * 7, none⟩) = some A ∧ Hid (∀ t u, news[t]? = some u → w.drew.cell? (A.add t) = some u) := by
    by_cases h : c = j
    · refine ⟨⟨b, off, none⟩, by simp [h], fun t u hu => ?_⟩
      rw [List.length_eq_zero_iff.1 (show news.length = 0 by omega)] at hu
      simp at hu
    · refine ⟨⟨b, off + j * 7, none⟩, by simp [h], fun t u hu => ?_⟩
      rw [Addr.add_lit, Nat.add_assoc]
      rw [hnews, List.getElem?_drop] at hu
      exact hcs _ u hu
  have s1 : Hid (news.length = (n - j) * 7) := hlen
  have s2 : Hid (∀ u ∈ news, u.oneCell' = true) := fun u hu => by rw [hnews] at hu; exact h1c u (List.mem_of_mem_drop hu)
  have s3 : Hid (∀ t, t < news.length → (w.drew.cell? ⟨b, off + i * 7 + t, none⟩).isSome = true ∧ w.drew.frozen? ⟨b, off + i * 7 + t, none⟩ = false) := fun t ht => by
    rw [hlen] at ht
    rw [Nat.add_assoc]
    exact ⟨hsome _ (by omega), hfz _ (by omega)⟩
  rw [← hnews]
  obtain ⟨W1, hW1⟩ : ∃ W1, W1 = w.drew.setCells b (off + i * 7) news := ⟨_, rfl⟩
  have hk1 : n - (i + (n - j)) = 1 := by omega
  have hcl : ∀ ty, (Builtin.clear_ #[24] ty #[.slice (some ⟨b, off + (i + (n - j)) * 7, none⟩) (n - (i + (n - j))) (c - (i + (n - j)))]).run Tryz.prog W1 = .ok (.tuple #[]) (W1.setCells b (off + (i + (n - j)) * 7) zc7) := fun ty => by
    rw [hk1]
    refine clear_one W1 ty b _ _ (fun t ht => ?_) (fun t ht => ?_)
    · rw [hW1, Nat.add_assoc]
      exact isSome_setCells b news (off + i * 7) w.drew (fun t ht => (s3 t ht).1) _ (hsome _ (by omega))
    · rw [hW1, World.frozen?_setCells, Nat.add_assoc]
      exact hfz _ (by omega)
  have hW : Hid (W1 = w.drew.setCells b (off + i * 7) news) := hW1
  rw [← hW1]
  have hic : i ≤ c := by omega
  have hjc : j ≤ c := by omega
  have hcc : ¬ (c = i + (n - j)) := by omega
  clear hW1 hnews hlen hcs hfz hsome hk1 hij hz0 hzb hzc
  go_enter Tryz.func56, Tryz.ntmps56
  go_wp2_with fail
  go_region_law_o (refine step_append_room rfl (.tmp 22) (.tmp 25) 24 rfl 38 i0 7 Tryz.underlying24 hi0 hzs b off i c (by simp [Act.eval, Act.put]) A (n - j) (c - j) news (by simp [Act.eval, Act.put]) s1.out hsrc.out s2.out (by omega) s3.out ?_; rw [← hW.out])
  go_wp2
  go_ret
  exact ⟨rfl, rfl⟩
end Go.Proofs
namespace Go.Ev
open Go.Proofs
def delSig (rs : List Sh) : Sig := ⟨[.one (.o rs), .one (.r (.i .i64)), .one (.r (.i .i64))], [.one (.o rs)]⟩
theorem del_close {P : Program} {rs : List Sh} {w w' : World} {Im : IM} {bs : List Nat} {y : List (tyL rs)} {us' : List Value} {b' o' cap' : Nat} {cs' : Array Value} {e' : TypeId} {fz' : Nat × Nat} {e : Ending}
    (he : e = .returned (.slice (some ⟨b', o', none⟩) y.length cap')) (hq : outside w' = outside w) (hsz : w.heap.size ≤ w'.heap.size) (kept : ∀ k, k < w.heap.size → k ∉ bs → w'.heap[k]? = w.heap[k]?)
    (hb' : (b' ∈ bs ∨ w.heap.size ≤ b') ∧ b' < w'.heap.size) (hcap : y.length ≤ cap') (hheap : w'.heap[b']? = some (.cells cs' e' fz')) (hfz : freeB rs fz' cs'.size) (hfit : o' + cap' * rs.length ≤ cs'.size)
    (hR : Rows P w Im rs y us') (hIm : ∀ b, Im b → b < w.heap.size ∧ b ∉ bs) (hcells : ∀ j u, us'[j]? = some u → w'.cell? ⟨b', o' + j, none⟩ = some u) :
    ∃ v us bs'', e = .returned v ∧ After P (delSig rs) y w Im bs [] v w' us bs'' := by
  obtain ⟨v, us, bs'', h1, h2⟩ := ins_close he hq hsz kept hb' hcap hheap hfz hfit hR hIm hcells
  exact ⟨v, us, bs'', h1, h2.val, h2.qt, h2.size, h2.kept, h2.nodup, h2.from_, h2.out⟩
theorem delete_ok (rs : List Sh) (hk : rs.length = 7) (l : List (tyL rs)) (i : Nat) (hi : i < l.length) (hbd : l.length ≤ 1073741824) :
    Ok Tryz.prog 56 (delSig rs) (l, (i : Int), ((i + 1 : Nat) : Int)) (l.take i ++ l.drop (i + 1) : List (tyL rs)) := by
  intro w Im vs bs bx hIm hp hnd hbs
  simp only [delSig, ParsR, ParR, LfR, VR] at hp
  obtain ⟨v1, vs1, bs1, bs2, bx1, bx2, rfl, rfl, rfl, ⟨rfl, h1⟩, v2, vs2, bs3, bs4, bx3, bx4, rfl, rfl, rfl, ⟨rfl, rfl, rfl⟩, v3, rfl, rfl, rfl, rfl⟩ := hp
  rcases h1 with ⟨e, _⟩ | ⟨b, o, cap, cs, e, fz, rfl, rfl, hcap, hheap, hfz, hfit, hrows⟩
  · rw [e] at hi; simp at hi
  obtain ⟨us, hR, hU⟩ := Rows.of (P := Tryz.prog) (w := w) (Im := Im) l (fun k => w.cell? ⟨b, k, none⟩) o hrows
  have hul := hR.length
  rw [hk] at hul
  have hbw := (hbs b (by simp)).1
  have hIm' : ∀ k, Im k → k < w.heap.size ∧ k ∉ [b] ++ ([] ++ []) := fun k hk => ⟨hIm k hk, fun h => (hbs k h).2 hk⟩
  have one := hR.ones
  rw [hk] at hfit
  have hcapfit : l.length * 7 ≤ cap * 7 := Nat.mul_le_mul_right _ hcap
  have cellS : ∀ k, k < cs.size → (w.cell? ⟨b, k, none⟩).isSome = true := fun k hk => by
    simp only [World.cell?, hheap, Option.isSome_none, Bool.false_eq_true, if_false]
    rw [Array.getElem?_eq_getElem hk]; rfl
  have frz : ∀ k, k < cs.size → w.frozen? ⟨b, k, none⟩ = false := fun k hk => by
    simp only [World.frozen?, hheap]
    have := hfz.1 k hk
    simpa using this
  have hyl : (l.take i ++ l.drop (i + 1)).length = i + (l.length - (i + 1)) := by simp; omega
  have hR' : Rows Tryz.prog w Im rs (l.take i ++ l.drop (i + 1)) (us.take (i * 7) ++ us.drop ((i + 1) * 7)) := by
    have := (hR.take i).append (hR.drop (i + 1))
    rwa [hk] at this
  have hAl : (us.take (i * 7)).length = i * 7 := by rw [List.length_take]; omega
  have hdl : (us.drop ((i + 1) * 7)).length = (l.length - (i + 1)) * 7 := by rw [List.length_drop, hul, Nat.sub_mul]
  refine (delete_walk b o l.length cap i (i + 1) us w rfl hi hcap hbd hul hU (fun j hj => frz _ (by omega)) one).mono fun e w' hh => ?_
  obtain ⟨he, rfl⟩ := hh
  have W := ((Wrote.drew w b).trans (Wrote.cells b (us.drop ((i + 1) * 7)) (o + i * 7) w.drew)).trans (Wrote.cells b zc7 (o + (i + (l.length - (i + 1))) * 7) _)
  obtain ⟨cs', hc1, hc2⟩ := W.here _ _ _ hheap
  have some1 : ∀ j, j < (us.drop ((i + 1) * 7)).length → (w.drew.cell? ⟨b, o + i * 7 + j, none⟩).isSome = true := fun j hj => cellS _ (by omega)
  refine del_close (by rw [hyl]; exact he) W.out (by rw [W.size]; exact Nat.le_refl _) (fun k hk hn => W.other k (by simpa using hn)) ⟨.inl (by simp), by rw [W.size]; exact hbw⟩ (by rw [hyl]; omega) hc1 (by rw [hc2]; exact hfz) (by rw [hc2, hk]; exact hfit) hR' hIm' ?_
  intro j v hj
  have hjl := (List.getElem?_eq_some_iff.1 hj).1
  rw [List.length_append, hAl, hdl] at hjl
  rw [World.cell?_setCells_out _ _ _ _ _ (fun _ _ => by left; show o + j < _; omega)]
  by_cases hc : j < i * 7
  · rw [World.cell?_setCells_out _ _ _ _ _ (fun _ _ => by left; show o + j < _; omega)]
    rw [List.getElem?_append_left (by omega), List.getElem?_take, if_pos hc] at hj
    exact hU j v hj
  · rw [List.getElem?_append_right (by omega), hAl] at hj
    have := cells_in some1 hj
    rwa [show o + i * 7 + (j - i * 7) = o + j by omega] at this
end Go.Ev
namespace Go.G
open Go.Ev Go.Proofs
def rsBox : List Sh := [.s, .i .i64, .i .i64, .i .i64, .sl [.i .i64, .i .i64, .i .i64, .s], .sl [.i .i64, .i .i64], .i .i64]
theorem fn_slices_Insert_impl_Box : FnOk Tryz.prog 53 ⟨insSig rsBox, fun x => slices_Insert_impl_Box x.1 x.2.1 x.2.2⟩ where
  call := ⟨Tryz.f53, Tryz.func53, by kernel_rfl, by kernel_rfl⟩
  ok := by
    intro x y hy
    obtain ⟨l, i, m⟩ := x
    change slices_Insert_impl_Box l i m = some y at hy
    unfold slices_Insert_impl_Box insertO at hy
    split at hy
    · rename_i h1
      split at hy
      · rename_i h2
        injection hy with hy
        obtain ⟨k, rfl⟩ := Int.eq_ofNat_of_zero_le h2.1
        subst hy
        exact insert_ok rsBox rfl (by unfold rsBox; intro h; cases h) l m k h1.1 h1.2 (Int.ofNat_le.1 h2.2.1) (Nat.le_trans (Nat.add_le_add_left (Nat.le_of_eq h1.1.symm) _) h2.2.2)
      · cases hy
    · cases hy
theorem fn_slices_Delete_impl_Box : FnOk Tryz.prog 56 ⟨delSig rsBox, fun x => slices_Delete_impl_Box x.1 x.2.1 x.2.2⟩ where
  call := ⟨Tryz.f56, Tryz.func56, by kernel_rfl, by kernel_rfl⟩
  ok := by
    intro x y hy
    obtain ⟨l, i, j⟩ := x
    change slices_Delete_impl_Box l i j = some y at hy
    unfold slices_Delete_impl_Box at hy
    split at hy
    · rename_i h1
      injection hy with hy
      obtain ⟨k, rfl⟩ := Int.eq_ofNat_of_zero_le h1.1
      subst hy
      have hj : j = ((k + 1 : Nat) : Int) := by rw [h1.2.1]; rfl
      subst hj
      exact delete_ok rsBox rfl l k (Int.ofNat_le.1 h1.2.2.1) h1.2.2.2
    · cases hy
end Go.G
