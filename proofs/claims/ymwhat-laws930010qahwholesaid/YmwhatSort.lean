import Derived.Test.YmwhatSelW
import Derived.Ground.NamesProg
import Derived.Shelf.Lay
import Derived.Shelf.Sort.Plain
import Derived.Sort.OwnSorted
import Derived.Shelf.Slices.In.SortNone
set_option linter.unusedVariables false
set_option linter.unusedSimpArgs false
namespace Go.Proofs
open Go.Shelf
shelf_lay Lays.n190 Nm 190 at Yatv as Yatv.laysSort
end Go.Proofs
namespace Go.Proofs.Ymwhat
open Go.RowKit Go.Shelf Go.Sort

/-- The words, sorted. -/
def srtd (M : List (List UInt8)) : List (List UInt8) := M.mergeSort fun x y => decide (x ≤ y)

theorem srtd_length (M : List (List UInt8)) : (srtd M).length = M.length := List.length_mergeSort M

theorem sort39_pos {w : World} {g cap : Nat} {M : List (List UInt8)} (h : SR w (.slice (some ⟨g, 0, none⟩) M.length cap) M) (hn : M.length ≤ 1000000000) :
    Calls Yatv.prog 39 #[.slice (some ⟨g, 0, none⟩) M.length cap] w fun e w' => e = .returned (.tuple #[]) ∧ SR w' (.slice (some ⟨g, 0, none⟩) M.length cap) (srtd M) ∧ Kept (fun b => b = g) w w' := by
  have hr := h
  rcases h with ⟨h0, _⟩ | ⟨g', cap', cur, hv, hb, h1, h2, h3, h4⟩
  · cases h0
  cases hv
  have ht : cur.toList.take (M.length * 1) = M.map encStr := by
    apply List.ext_getElem?
    intro i
    rw [List.getElem?_take]
    by_cases hi : i < M.length * 1
    · have hi' : i < M.length := by omega
      rw [if_pos hi]
      have := h4 i hi
      rw [Array.getElem?_toList, this]
      simp [hi', List.getD, encStr, bs]
    · rw [if_neg hi, List.getElem?_eq_none (by simp; omega)]
  have hH : Holds encStr w g 0 M.toArray := holds_of_block hb (by simpa using ht)
  have hgl : g < w.heap.size := (Array.getElem?_eq_some_iff.1 hb).1
  refine (Any.slices_Sort_string Yatv.laysSort g 0 cap M w hH hgl (by omega)).mono ?_
  rintro e w' ⟨rfl, nn, os, rfl⟩
  refine ⟨rfl, ?_, ?_⟩
  · have hs := ownsRow_sorted (n := nn) (os := os) (ts := srtd M) (srtd_length M) (Nat.zero_le g) hb h1 h2 h3
    unfold SR
    rw [srtd_length]
    refine Row.of_owns hs (fun i hi => ?_)
    have hi' : i < (srtd M).length := by rw [srtd_length]; omega
    simp [hi', List.getD, encStr, bs]
  · exact (Kept.refl _ w).grown (grownBy_sorted _) (fun k hk _ => by simpa using hk.symm)

theorem le_bl (x y : List UInt8) : decide (x ≤ y) = !bl y x := by
  have h := bytesLess_eq y x
  rw [bless_eq] at h
  rw [h, Bool.eq_iff_iff]
  simp

theorem srtd_perm (M : List (List UInt8)) : (srtd M).Perm M := List.mergeSort_perm M _

theorem nbl_trans {a b c : List UInt8} (h1 : bl b a = false) (h2 : bl c b = false) : bl c a = false := by
  cases e : bl c a
  · rfl
  · rcases bl_tri b c with h | h | h
    · have := bl_trans h e
      rw [h1] at this; cases this
    · subst h
      rw [h1] at e; cases e
    · rw [h2] at h; cases h

theorem srtd_srt {M : List (List UInt8)} (hn : M.Nodup) : Srt (srtd M) := by
  have h1 : (srtd M).Pairwise (fun a b => decide (a ≤ b) = true) := by
    refine List.pairwise_mergeSort (fun a b c hab hbc => ?_) (fun a b => ?_) M
    · rw [le_bl] at hab hbc ⊢
      simp only [Bool.not_eq_true'] at hab hbc ⊢
      exact nbl_trans hab hbc
    · rw [le_bl, le_bl]
      rcases bl_tri a b with h | h | h
      · simp [bl_asymm h]
      · subst h; simp [bl_irrefl]
      · simp [bl_asymm h]
  have h2 : (srtd M).Nodup := (srtd_perm M).nodup_iff.2 hn
  refine List.Pairwise.imp ?_ (List.pairwise_and_iff.2 ⟨h1, h2⟩)
  rintro a b ⟨hab, hne⟩
  rw [le_bl] at hab
  simp only [Bool.not_eq_true'] at hab
  rcases bl_tri a b with h | h | h
  · exact h
  · exact absurd h hne
  · rw [hab] at h; cases h

theorem srt_unique : ∀ {A B : List (List UInt8)}, Srt A → Srt B → A.Perm B → A = B
  | [], B, _, _, hp => by rw [List.nil_perm.1 hp]
  | a :: A, [], _, _, hp => absurd (List.perm_nil.1 hp) (by simp)
  | a :: A, b :: B, ha, hb, hp => by
    have ha' := List.pairwise_cons.1 ha
    have hb' := List.pairwise_cons.1 hb
    have e : a = b := by
      have h1 : a ∈ b :: B := hp.mem_iff.1 (by simp)
      have h2 : b ∈ a :: A := hp.mem_iff.2 (by simp)
      rcases List.mem_cons.1 h1 with h | h
      · exact h
      · rcases List.mem_cons.1 h2 with g | g
        · exact g.symm
        · have := bl_trans (hb'.1 a h) (ha'.1 b g)
          rw [bl_irrefl] at this; cases this
    subst e
    rw [srt_unique ha'.2 hb'.2 (List.perm_cons a |>.1 hp)]

theorem srtd_filter {S : List (List UInt8)} (hn : S.Nodup) (f : List UInt8 → Bool) : srtd (S.filter f) = (srtd S).filter f := by
  refine srt_unique (srtd_srt (List.Nodup.sublist List.filter_sublist hn)) (List.Pairwise.sublist List.filter_sublist (srtd_srt hn)) ?_
  exact (srtd_perm _).trans ((srtd_perm S).filter f).symm

theorem sort39_nil (w : World) : Calls Yatv.prog 39 #[.slice none 0 0] w fun e w' => e = .returned (.tuple #[]) ∧ w' = w :=
  Any.slices_Sort_string_none Yatv.laysSort none 0 w

end Go.Proofs.Ymwhat
