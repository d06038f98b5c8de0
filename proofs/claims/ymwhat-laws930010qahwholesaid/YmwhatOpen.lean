import Derived.Test.YmwhatHeap
import Derived.ProofKit
import Derived.SizedLaws
import Derived.Deep.Slices
set_option linter.unusedVariables false
set_option linter.unusedSimpArgs false
namespace Go.Proofs.Ymwhat
open Go.ChangeShapes Go.WideShapes Go.ChangeAt Go.RowKit Go.Deep

theorem u8_bounds {x : Int} (h : (Lit.int .u8 x).wf = true) : 0 ≤ x ∧ x ≤ 255 := by
  have h1 : IntKind.u8.min = 0 := rfl
  have h2 : IntKind.u8.max = 255 := rfl
  simp only [Lit.wf, Bool.and_eq_true, decide_eq_true_eq] at h
  omega

/-- A slice of structs of two one-cell fields that came in: its length, and each element's cells. -/
theorem open_pairs {H : Type} {enc : TypeId × Value → H} {P : Program} {w : World} {base : Nat} {held : Bool} {t e : TypeId} {f0 f1 : Field} {fuel : Nat} {v : Value} {x : DataW H × List MemPlace} (ht : P.underlying t = some (.slice e)) (he : P.underlying e = some (.struct #[f0, f1]))
    (ce : P.cellsOf e = 2) (o0 : f0.offset = 0) (o1 : f1.offset = 1) (c0 : P.cellsOf f0.type = 1) (c1 : P.cellsOf f1.type = 1)
    (h : DataW.trod enc P w base (fun _ => true) held fuel t [v] = some x) :
    ∃ (ao : Option Addr) (len cap n : Nat), v = .slice ao len cap ∧ len ≤ maxLen ∧ (0 < len → ∃ b off, ao = some ⟨b, off, none⟩ ∧ b < w.heap.size ∧ ∀ i, i < len → ∃ v0 v1 y0 y1, w.cell? ⟨b, off + i * 2, none⟩ = some v0 ∧ w.cell? ⟨b, off + i * 2 + 1, none⟩ = some v1 ∧
      DataW.trod enc P w base (fun _ => true) held n f0.type [v0] = some y0 ∧ DataW.trod enc P w base (fun _ => true) held n f1.type [v1] = some y1) := by
  rcases open_slice ht h with ⟨h0, _⟩ | ⟨a, len, cap, m, n, D, Pl, hcs, hb, hl, hm, hmm, rfl, hx⟩
  · simp at h0
    exact ⟨none, 0, 0, 0, h0, Nat.zero_le _, fun h => absurd h (Nat.lt_irrefl _)⟩
  · simp at hcs
    simp only [if_true] at hmm
    have each : ∀ i, i < m → ∃ v0 v1 y0 y1, w.cell? (a.add (i * 2)) = some v0 ∧ w.cell? (a.add (i * 2 + 1)) = some v1 ∧
      DataW.trod enc P w base (fun _ => true) held (n - 1) f0.type [v0] = some y0 ∧ DataW.trod enc P w base (fun _ => true) held (n - 1) f1.type [v1] = some y1 := by
      intro i hi
      obtain ⟨cs', h1, h2⟩ := hx i hi
      rw [ce] at h1
      obtain ⟨_, hlen, hcell⟩ := World.cells?_some h1
      obtain ⟨xs, k, hk, hxy, _, hxl, hf⟩ := DataW.trod_struct he h2
      have hk' : k = n - 1 := by omega
      subst hk'
      match xs, hxl, cs', hlen with
      | [y0, y1], _, [v0, v1], _ =>
        have g0 := hf 0 f0 rfl
        have g1 := hf 1 f1 rfl
        simp [o0, o1, c0, c1] at g0 g1
        have e0 := hcell 0 (by omega)
        have e1 := hcell 1 (by omega)
        rw [add_add] at e0 e1
        exact ⟨v0, v1, y0, y1, by simpa using e0, by simpa using e1, g0, g1⟩
    refine ⟨some a, len, cap, n - 1, hcs, by omega, fun hpos => ?_⟩
    obtain ⟨b, off, spot⟩ := a
    obtain ⟨u0, _, _, _, hu, _⟩ := each 0 (by omega)
    have hspot : spot = none := by simpa [Addr.add] using World.cell?_spot hu
    subst hspot
    refine ⟨b, off, rfl, ?_, fun i hi => ?_⟩
    · have := World.block_lt_of_cell? _ _ hu
      simpa [Addr.add] using this
    · obtain ⟨v0, v1, y0, y1, q1, q2, q3, q4⟩ := each i (by omega)
      rw [add_plain] at q1 q2
      exact ⟨v0, v1, y0, y1, q1, by rw [Nat.add_assoc]; exact q2, q3, q4⟩

end Go.Proofs.Ymwhat
