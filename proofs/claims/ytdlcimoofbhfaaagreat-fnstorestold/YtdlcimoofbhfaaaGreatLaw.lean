/- The given statement out of what the function computes. -/
import Derived.Test.YtdlcimoofbhfaaaGreatEvX
import Derived.Test.YtdlcimoofbhfaaaGreatF
import Derived.Test.YtdlcimoofbhfaaaGreatRows
import Derived.WalkKit
import Derived.ProofKit
import Derived.SizedLaws
import Derived.OpenShut
set_option linter.all false
namespace Go.Proofs.YtdlcimoofbhfaaaGreat
open Go.ChangeShapes Go.WideShapes Go.ChangeAt Go.RowKit
set_option linter.unusedVariables false
theorem own : ownKnob Tryz.prog.godebug = none := by kernel_rfl
theorem laidOut : laidOutB Tryz.prog = true := by kernel_rfl
theorem cells5 : Tryz.prog.cellsOf 5 = 1 := by kernel_rfl
def ByteL (code : List Int) : Prop := (∀ b ∈ code, 0 ≤ b ∧ b ≤ 255) ∧ code.length ≤ 9223372036854775807
set_option maxRecDepth 100000 in
theorem lifted {S : Go.Ev.Sig} (hS : S = ⟨[.one (.r (.sl [.i .u8]))], [.one (.r .b)]⟩) {F : List Int → Option Bool} (hok : Go.Ev.FnOk Tryz.prog 3 ⟨⟨[.one (.r (.sl [.i .u8]))], [.one (.r .b)]⟩, F⟩) (hF : ∀ code, ByteL code → F code = some true) (os : Os) (started : os.Started) (H : Type) (enc : TypeId × Value → H) :
    ReturnsInHanded {} Tryz.checked os 3 .any (Rows.fnStoresToldSpec.pre6 enc Tryz.prog Tryz.f3 Rows.fnStoresToldRow.domain false) (Rows.fnStoresToldSpec.post enc Tryz.prog Tryz.f3 false true false false) := by
  refine returnsInHanded_of_change_sized (C := Tryz.checked) own started (by kernel_rfl) Tryz.func3
    (ChangeSpec.witness6 (enc := enc) (C := Tryz.checked) false ⟨#[], #[.slice none 0 0], []⟩ 8 (by kernel_rfl) (by kernel_rfl) (by kernel_rfl) (by kernel_rfl)) ?_
  intro W base args ds gs before hval0 hW _ hsz0 _
  have hval : ∀ (j : Nat) t v, Tryz.f3.params[j]? = some t → args[j]? = some v → Value.okWide Tryz.prog W .any base t v := hval0
  have hW' := hW
  obtain ⟨p, q, hA0, hV, rfl, _, _⟩ := hW
  have hA : DataW.TrodAll enc Tryz.prog W 0 (fun _ => true) true Tryz.f3.params.toList args.toList ds p := hA0
  rw [Tryz.params3] at hA hval
  obtain ⟨v0, vs0, d0, ds0, p0, q0, hargs, rfl, rfl, h0, r0⟩ := trodAll_cons hA
  obtain ⟨rfl, rfl, rfl⟩ := trodAll_nil r0
  obtain rfl : args = #[v0] := by cases args; simp_all
  obtain ⟨rfl, rfl⟩ := trodVars_none hV
  obtain ⟨a0, len, cap, rfl⟩ := okWide_slice Tryz.underlying22 (hval 0 22 v0 rfl rfl)
  have h0k := h0
  obtain ⟨fuel, hf⟩ := h0
  clear hA0 hval0
  simp only [List.append_nil] at hW'
  have hlt : ∀ x ∈ p0, x.block < W.heap.size := fun x hx => by simpa using hW'.lt x hx
  have hargsR : ∀ (W' : World), Below W.heap.size W W' → DataW.Trod enc Tryz.prog W' 0 (fun b => decide (b < W.heap.size)) true 22 (.slice a0 len cap) d0 p0 :=
    fun W' hn => Below.trod laidOut (by kernel_rfl) (of_decide_eq_true (by kernel_rfl)) h0k hn hlt
  have fin : ∀ code : List Int, ByteL code → code.length = len → len ≤ cap → (code ≠ [] → ∃ b o, a0 = some ⟨b, o, none⟩ ∧ b < W.heap.size ∧ ∀ i, i < code.length → W.cell? ⟨b, o + i, none⟩ = some (.int .u8 (code.getD i 0))) →
      Calls Tryz.checked.prog 3 #[.slice a0 len cap] W fun e W' => ∃ v, e = Ending.returned v ∧ Rows.fnStoresToldSpec.post enc Tryz.checked.prog Tryz.f3 false true false false W #[.slice a0 len cap] v W' := by
    intro code hb hl hcap hc
    subst hl
    refine (Go.Ev.law_bytes hok (hF code hb) hcap hc).mono fun e W' ⟨he, hnx⟩ => ?_
    subst he
    refine ⟨_, rfl, _, _, _, [] ++ [], p0 ++ [], [], hW', ?_, ?_, by rfl, hnx.frame _, fun h => by cases h⟩
    · exact trodAll_cons_mk (shut_bool Tryz.underlying4 _) trodAll_mk0
    · exact trodAll_cons_mk (hargsR _ hnx) trodAll_mk0
  rcases open_ints Tryz.underlying22 Tryz.underlying5 cells5 hf with ⟨hcs, hx⟩ | ⟨a, len', cap', zs, hcs, _, hl, hm, hz, hx, hcell, hwz⟩
  · simp [Value.cells] at hcs
    obtain ⟨rfl, rfl, rfl⟩ := hcs
    exact fin [] ⟨(fun b hb => by cases hb), by simp⟩ rfl (Nat.le_refl _) (fun h => absurd rfl h)
  · simp [Value.cells] at hcs
    obtain ⟨rfl, rfl, rfl⟩ := hcs
    simp only [Prod.mk.injEq] at hx
    obtain ⟨rfl, rfl⟩ := hx
    simp only [if_true] at hz
    refine fin (zs.take len) ⟨fun b hb => ?_, ?_⟩ (by simp; omega) hl (fun hn => ?_)
    · have := hwz b (List.mem_of_mem_take hb)
      simpa [Lit.wf, IntKind.min, IntKind.max, IntKind.signed, IntKind.bits] using this
    · unfold maxLen at hm; simp; omega
    · obtain ⟨b, off, spot⟩ := a
      have hl0 : 0 < len := by
        rcases Nat.eq_zero_or_pos len with h | h
        · subst h; simp at hn
        · exact h
      have hspot : spot = none := by simpa [Addr.add] using World.cell?_spot (hcell 0 (by omega))
      subst hspot
      refine ⟨b, off, rfl, hlt (.cell b off) (MemPlace.mem_row.2 ⟨0, by omega, by simp⟩), fun i hi => ?_⟩
      have hi' : i < len := by simp at hi; omega
      rw [← add_plain, hcell i (by omega)]
      simp only [List.getD_eq_getElem?_getD, List.getElem?_take, if_pos hi']
theorem said {F : List Int → Option Bool} (hok : Go.Ev.FnOk Tryz.prog 3 ⟨⟨[.one (.r (.sl [.i .u8]))], [.one (.r .b)]⟩, F⟩) (hF : ∀ code, ByteL code → F code = some true) : Rows.FnStoresToldSaid :=
  OpenClaim.holds_of_wide 3 Tryz.f3 rfl rfl rfl rfl rfl rfl rfl ⟨rfl, rfl, rfl, rfl, rfl⟩ rfl rfl rfl rfl rfl (by kernel_rfl) Tryz.func3 (by kernel_rfl)
    (of_decide_eq_true (by kernel_rfl)) (by unfold Func.isWrapper; first | (rw [if_pos (by decide +kernel)]; kernel_rfl) | (rw [if_neg (by decide +kernel)]; exact ⟨rfl, rfl⟩))
    (fun os started H enc _ => lifted rfl hok hF os started H enc)
end Go.Proofs.YtdlcimoofbhfaaaGreat
