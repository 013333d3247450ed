/- A part of the proof. -/
import Derived.Test.YtdlcimoofbhfaaaGreatEvW
import Derived.Below
set_option linter.all false
set_option linter.constructorNameAsVariable false
set_option linter.unusedVariables false
namespace Go.Ev
theorem law_bytes {P : Program} {g : Nat} {F : List Int → Option Bool} (h : FnOk P g ⟨⟨[.one (.r (.sl [.i .u8]))], [.one (.r .b)]⟩, F⟩) {code : List Int} (hF : F code = some true) {W : World} {a : Option Addr} {cap : Nat} (hl : code.length ≤ cap)
    (hc : code ≠ [] → ∃ b o, a = some ⟨b, o, none⟩ ∧ b < W.heap.size ∧ ∀ i, i < code.length → W.cell? ⟨b, o + i, none⟩ = some (.int .u8 (code.getD i 0))) :
    Calls P g #[.slice a code.length cap] W fun e W' => e = .returned (.bool true) ∧ RowKit.Below W.heap.size W W' := by
  have hok := h.ok code true hF
  have hpr : ParsR P W (fun b => b < W.heap.size) [.one (.r (.sl [.i .u8]))] code [.slice a code.length cap] [] [] := by
    simp only [ParsR, ParR, LfR, VR]
    refine ⟨_, rfl, trivial, trivial, a, cap, rfl, hl, fun hn => ?_⟩
    obtain ⟨b, o, h1, h2, h3⟩ := hc hn
    refine ⟨b, o, h1, h2, fun i r hr => ?_⟩
    simp only [CR, VR]
    refine ⟨_, ⟨_, rfl, rfl⟩, ?_⟩
    intro j u hu
    cases j with
    | zero =>
      simp at hu
      subst hu
      have hlt : i < code.length := (List.getElem?_eq_some_iff.1 hr).1
      have := h3 i hlt
      rw [List.getD_eq_getElem?_getD, hr] at this
      simpa using this
    | succ j => simp at hu
  refine (hok W _ _ [] [] (fun b hb => hb) hpr List.nodup_nil (fun b hb => by cases hb)).mono fun e W' hh => ?_
  obtain ⟨v, us, bs', rfl, ha⟩ := hh
  have ho := ha.out
  simp only [List.length_cons, List.length_nil, Nat.sub_zero, OutR, ParR, LfR, VR] at ho
  obtain ⟨_, u, bx', rfl, _, _, rfl⟩ := ho
  have hq := ha.qt
  simp only [outside, Prod.mk.injEq] at hq
  exact ⟨by rw [ha.val]; rfl, ⟨hq.1, hq.2.1, hq.2.2, ha.size, fun k hk => ha.kept k hk (by simp)⟩⟩
end Go.Ev
