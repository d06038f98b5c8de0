import Derived.Test.YmwhatOps
import Derived.Deep.RegionLaw
import Derived.Laws.IdiomCopy
set_option linter.unusedVariables false
set_option linter.unusedSimpArgs false
namespace Go.Proofs.Ymwhat
open Go.RowKit

theorem Row.setCells {e : TypeId} {size g n m cap : Nat} : ∀ (vs : List Value) {w : World} {f : Nat → Value} (h : Row w e size (.slice (some ⟨g, 0, none⟩) m cap) n f) (o : Nat),
    Row (w.setCells g o vs) e size (.slice (some ⟨g, 0, none⟩) m cap) n (fun i => if o ≤ i ∧ i < o + vs.length then vs.getD (i - o) undef else f i)
  | [], w, f, h, o => h.congr (fun i _ => by simp; omega)
  | v :: r, w, f, h, o => by
    have := Row.setCells r (h.set o v) (o + 1)
    refine this.congr (fun i _ => ?_)
    simp only [List.length_cons]
    by_cases e : i = o
    · subst e
      rw [if_neg (by omega), if_pos rfl, if_pos (by omega)]
      simp
    · by_cases h1 : o + 1 ≤ i ∧ i < o + 1 + r.length
      · rw [if_pos h1, if_pos (by omega), show i - o = (i - (o + 1)) + 1 by omega]
        rfl
      · rw [if_neg h1, if_neg e, if_neg (by omega)]

theorem Kept.setCells {F : Nat → Prop} {g : Nat} (hg : F g) : ∀ (vs : List Value) {a b : World} (h : Kept F a b) (o : Nat), Kept F a (b.setCells g o vs)
  | [], _, _, h, _ => h
  | v :: r, _, _, h, o => Kept.setCells hg r (h.setCell (p := ⟨g, o, none⟩) hg v) (o + 1)

theorem Row.shrink {w : World} {e : TypeId} {size g n m cap : Nat} {f : Nat → Value} (h : Row w e size (.slice (some ⟨g, 0, none⟩) m cap) n f) {n' : Nat} (hn : n' ≤ n) : Row w e size (.slice (some ⟨g, 0, none⟩) n' cap) n' f := by
  rcases h with ⟨h, _⟩ | ⟨b, cap', cur, h, hg, hn', hc, hs, hf⟩
  · simp at h
  · simp at h
    obtain ⟨rfl, rfl, rfl⟩ := h
    exact .inr ⟨g, cap, cur, rfl, hg, by omega, hc, hs, fun i hi => hf i (Nat.lt_of_lt_of_le hi (Nat.mul_le_mul_right _ hn))⟩

/-- The cells that are moved one to the left. -/
def movedS (M : List (List UInt8)) (j : Nat) : List Value := (M.drop (j + 1)).map (fun x => Value.string (bs x))

theorem movedS_length (M : List (List UInt8)) (j : Nat) : (movedS M j).length = M.length - (j + 1) := by simp [movedS]

theorem movedS_get {M : List (List UInt8)} {j i : Nat} (h : i < M.length - (j + 1)) : (movedS M j)[i]? = some (.string (bs (M.getD (j + 1 + i) []))) := by
  simp [movedS, List.getD, List.getElem?_drop, show j + 1 + i < M.length by omega]

/-- 'append(set[:j], set[j+1:]...)' in place. -/
theorem SR.delete {w : World} {g cap j : Nat} {M : List (List UInt8)} (h : SR w (.slice (some ⟨g, 0, none⟩) M.length cap) M) (hj : j < M.length) :
    SR (w.setCells g j (movedS M j)) (.slice (some ⟨g, 0, none⟩) (j + (M.length - (j + 1))) cap) (M.eraseIdx j) := by
  have hl : (M.eraseIdx j).length = j + (M.length - (j + 1)) := by rw [List.length_eraseIdx, if_pos hj]; omega
  unfold SR
  rw [hl]
  refine ((Row.setCells (movedS M j) h j).shrink (by omega)).congr (fun i hi => ?_)
  rw [movedS_length]
  by_cases h1 : j ≤ i ∧ i < j + (M.length - (j + 1))
  · rw [if_pos h1]
    simp only [List.getD, movedS_get (show i - j < M.length - (j + 1) by omega), List.getElem?_eraseIdx]
    rw [if_neg (by omega), show j + 1 + (i - j) = i + 1 by omega]
    rfl
  · rw [if_neg h1]
    simp only [List.getD, List.getElem?_eraseIdx]
    rw [if_pos (by omega)]

theorem del_ready {w : World} {g cap j : Nat} {M : List (List UInt8)} (h : SR w (.slice (some ⟨g, 0, none⟩) M.length cap) M) (hj : j < M.length) (hcap : M.length ≤ cap) :
    ∃ A : Addr, (if cap = j + 1 then some (⟨g, 0, none⟩ : Addr) else some ⟨g, j + 1, none⟩) = some A ∧ Hid (∀ i u, (movedS M j)[i]? = some u → w.drew.cell? (A.add i) = some u) ∧
      Hid ((movedS M j).length = (M.length - (j + 1)) * 1) ∧ Hid (∀ u ∈ movedS M j, u.oneCell' = true) ∧ Hid (∀ i, i < (movedS M j).length → (w.drew.cell? ⟨g, 0 + j * 1 + i, none⟩).isSome = true ∧ w.drew.frozen? ⟨g, 0 + j * 1 + i, none⟩ = false) := by
  have hl := movedS_length M j
  have hcell : ∀ i, i < M.length → w.cell? ⟨g, i, none⟩ = some (.string (bs (M.getD i []))) := fun i hi => Row.cell h (by omega)
  refine ⟨if cap = j + 1 then ⟨g, 0, none⟩ else ⟨g, j + 1, none⟩, by split <;> rfl, ?_, by rw [Nat.mul_one]; exact hl, ?_, ?_⟩
  · intro i u hu
    have hi : i < M.length - (j + 1) := by
      have := (List.getElem?_eq_some_iff.1 hu).1
      omega
    rw [if_neg (by omega), add_plain']
    rw [movedS_get hi] at hu
    rw [← hu]
    exact hcell _ (by omega)
  · intro u hu
    obtain ⟨x, _, rfl⟩ := List.mem_map.1 hu
    rfl
  · intro i hi
    rw [Nat.zero_add, Nat.mul_one]
    exact ⟨by show (w.cell? _).isSome = true; rw [hcell (j + i) (by omega)]; rfl, Row.frozen h (j + i)⟩

theorem eraseIdx_idxOf {S : List (List UInt8)} (s : List UInt8) : S.eraseIdx (S.idxOf s) = S.erase s := (List.erase_eq_eraseIdx_of_idxOf rfl).symm

theorem idxI_nonneg {S : List (List UInt8)} {s : List UInt8} (h : s ∈ S) : idxI S s = ((S.idxOf s : Nat) : Int) := by simp [idxI, h]
theorem idxI_neg {S : List (List UInt8)} {s : List UInt8} (h : s ∉ S) : idxI S s = -1 := by simp [idxI, h]

end Go.Proofs.Ymwhat
