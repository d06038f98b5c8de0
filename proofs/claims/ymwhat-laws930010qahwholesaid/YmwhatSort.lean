import Derived.Test.YmwhatSelW
import Derived.Shelf.Sort.Plain
import Derived.Sort.OwnSorted
import Derived.Shelf.Slices.In.SortNone
set_option linter.unusedVariables false
set_option linter.unusedSimpArgs false
namespace Go.Proofs
open Go.Shelf
def Yatv.laysSort_ren : Go.Shelf.Ren := ⟨fun | 190 => 39 | 125 => 61 | 258 => 60 | 128 => 73 | 129 => 74 | 302 => 64 | 303 => 65 | 304 => 66 | 305 => 67 | 306 => 68 | 307 => 69 | 308 => 70 | 309 => 71 | 310 => 72 | 333 => 75 | 329 => 76 | 330 => 77 | 334 => 78 | 335 => 79 | 336 => 80 | 344 => 81 | n => n, fun | 31 => 31 | 9 => 9 | 3 => 3 | 46 => 93 | 0 => 0 | 51 => 102 | 53 => 104 | 4 => 4 | 183 => 96 | 182 => 95 | 131 => 55 | 5 => 5 | 218 => 105 | 222 => 109 | 228 => 111 | 229 => 112 | n => n, fun | n => n⟩
theorem Yatv.laysSort : Go.Proofs.Lays.n190 Yatv.prog Yatv.laysSort_ren := {
  mixed := by kernel_rfl
  f125 := Yatv.func61.trans (congrArg some (by kernel_rfl))
  f128 := Yatv.func73.trans (congrArg some (by kernel_rfl))
  f129 := Yatv.func74.trans (congrArg some (by kernel_rfl))
  f190 := Yatv.func39.trans (congrArg some (by kernel_rfl))
  f258 := Yatv.func60.trans (congrArg some (by kernel_rfl))
  f302 := Yatv.func64.trans (congrArg some (by kernel_rfl))
  f303 := Yatv.func65.trans (congrArg some (by kernel_rfl))
  f304 := Yatv.func66.trans (congrArg some (by kernel_rfl))
  f305 := Yatv.func67.trans (congrArg some (by kernel_rfl))
  f306 := Yatv.func68.trans (congrArg some (by kernel_rfl))
  f307 := Yatv.func69.trans (congrArg some (by kernel_rfl))
  f308 := Yatv.func70.trans (congrArg some (by kernel_rfl))
  f309 := Yatv.func71.trans (congrArg some (by kernel_rfl))
  f310 := Yatv.func72.trans (congrArg some (by kernel_rfl))
  f329 := Yatv.func76.trans (congrArg some (by kernel_rfl))
  f330 := Yatv.func77.trans (congrArg some (by kernel_rfl))
  f333 := Yatv.func75.trans (congrArg some (by kernel_rfl))
  f334 := Yatv.func78.trans (congrArg some (by kernel_rfl))
  f335 := Yatv.func79.trans (congrArg some (by kernel_rfl))
  f336 := Yatv.func80.trans (congrArg some (by kernel_rfl))
  f344 := Yatv.func81.trans (congrArg some (by kernel_rfl))
  t0 := Yatv.underlying0
  a0 := Yatv.isAgg0
  z0 := Yatv.sizeOf0
  v0 := Yatv.zeroValue0
  t3 := Yatv.underlying3
  a3 := Yatv.isAgg3
  z3 := Yatv.sizeOf3
  v3 := Yatv.zeroValue3
  t4 := Yatv.underlying4
  a4 := Yatv.isAgg4
  z4 := Yatv.sizeOf4
  v4 := Yatv.zeroValue4
  t5 := Yatv.underlying5
  a5 := Yatv.isAgg5
  z5 := Yatv.sizeOf5
  v5 := Yatv.zeroValue5
  t9 := Yatv.underlying9
  a9 := Yatv.isAgg9
  z9 := Yatv.sizeOf9
  v9 := Yatv.zeroValue9
  t31 := Yatv.underlying31
  a31 := Yatv.isAgg31
  z31 := Yatv.sizeOf31
  v31 := Yatv.zeroValue31
  t46 := Yatv.underlying93
  a46 := Yatv.isAgg93
  z46 := Yatv.sizeOf93
  v46 := Yatv.zeroValue93
  t51 := Yatv.underlying102
  a51 := Yatv.isAgg102
  z51 := Yatv.sizeOf102
  v51 := Yatv.zeroValue102
  t53 := Yatv.underlying104
  a53 := Yatv.isAgg104
  z53 := Yatv.sizeOf104
  v53 := Yatv.zeroValue104
  t131 := Yatv.underlying55
  a131 := Yatv.isAgg55
  z131 := Yatv.sizeOf55
  v131 := Yatv.zeroValue55
  t182 := Yatv.underlying95
  a182 := Yatv.isAgg95
  z182 := Yatv.sizeOf95
  v182 := Yatv.zeroValue95
  t183 := Yatv.underlying96
  a183 := Yatv.isAgg96
  z183 := Yatv.sizeOf96
  v183 := Yatv.zeroValue96
  t218 := Yatv.underlying105
  a218 := Yatv.isAgg105
  z218 := Yatv.sizeOf105
  v218 := Yatv.zeroValue105
  t222 := Yatv.underlying109
  a222 := Yatv.isAgg109
  z222 := Yatv.sizeOf109
  v222 := Yatv.zeroValue109
  t228 := Yatv.underlying111
  a228 := Yatv.isAgg111
  z228 := Yatv.sizeOf111
  v228 := Yatv.zeroValue111
  t229 := Yatv.underlying112
  a229 := Yatv.isAgg112
  z229 := Yatv.sizeOf112
  v229 := Yatv.zeroValue112 }
end Go.Proofs
namespace Go.Proofs.Ymwhat
open Go.RowKit Go.Shelf Go.Sort

/-- The words, sorted. -/
def srtd (M : List (List UInt8)) : List (List UInt8) := M.mergeSort fun x y => decide (x ≤ y)

theorem srtd_length (M : List (List UInt8)) : (srtd M).length = M.length := List.length_mergeSort M

theorem sort39_pos {w : World} {g cap : Nat} {M : List (List UInt8)} (h : SR w (.slice (some ⟨g, 0, none⟩) M.length cap) M) (hn : M.length ≤ 1000000000) :
    Calls Yatv.prog 39 #[.slice (some ⟨g, 0, none⟩) M.length cap] w fun e w' => e = .returned (.tuple #[]) ∧ SR w' (.slice (some ⟨g, 0, none⟩) M.length cap) (srtd M) ∧ Kept (fun b => b = g) w w' := by
  have hr := h
  rcases h with ⟨h0, _⟩ | ⟨g', cap', cur, hv, hb, h1, h2, h3, h4⟩
  · cases h0
  cases hv
  have ht : cur.toList.take (M.length * 1) = M.map encStr := by
    apply List.ext_getElem?
    intro i
    rw [List.getElem?_take]
    by_cases hi : i < M.length * 1
    · have hi' : i < M.length := by omega
      rw [if_pos hi]
      have := h4 i hi
      rw [Array.getElem?_toList, this]
      simp [hi', List.getD, encStr, bs]
    · rw [if_neg hi, List.getElem?_eq_none (by simp; omega)]
  have hH : Holds encStr w g 0 M.toArray := holds_of_block hb (by simpa using ht)
  have hgl : g < w.heap.size := (Array.getElem?_eq_some_iff.1 hb).1
  refine (Any.slices_Sort_string Yatv.laysSort g 0 cap M w hH hgl (by omega)).mono ?_
  rintro e w' ⟨rfl, nn, os, rfl⟩
  refine ⟨rfl, ?_, ?_⟩
  · have hs := ownsRow_sorted (n := nn) (os := os) (ts := srtd M) (srtd_length M) (Nat.zero_le g) hb h1 h2 h3
    unfold SR
    rw [srtd_length]
    refine Row.of_owns hs (fun i hi => ?_)
    have hi' : i < (srtd M).length := by rw [srtd_length]; omega
    simp [hi', List.getD, encStr, bs]
  · exact (Kept.refl _ w).grown (grownBy_sorted _) (fun k hk _ => by simpa using hk.symm)

theorem le_bl (x y : List UInt8) : decide (x ≤ y) = !bl y x := by
  have h := bytesLess_eq y x
  rw [bless_eq] at h
  rw [h, Bool.eq_iff_iff]
  simp

theorem srtd_perm (M : List (List UInt8)) : (srtd M).Perm M := List.mergeSort_perm M _

theorem nbl_trans {a b c : List UInt8} (h1 : bl b a = false) (h2 : bl c b = false) : bl c a = false := by
  cases e : bl c a
  · rfl
  · rcases bl_tri b c with h | h | h
    · have := bl_trans h e
      rw [h1] at this; cases this
    · subst h
      rw [h1] at e; cases e
    · rw [h2] at h; cases h

theorem srtd_srt {M : List (List UInt8)} (hn : M.Nodup) : Srt (srtd M) := by
  have h1 : (srtd M).Pairwise (fun a b => decide (a ≤ b) = true) := by
    refine List.pairwise_mergeSort (fun a b c hab hbc => ?_) (fun a b => ?_) M
    · rw [le_bl] at hab hbc ⊢
      simp only [Bool.not_eq_true'] at hab hbc ⊢
      exact nbl_trans hab hbc
    · rw [le_bl, le_bl]
      rcases bl_tri a b with h | h | h
      · simp [bl_asymm h]
      · subst h; simp [bl_irrefl]
      · simp [bl_asymm h]
  have h2 : (srtd M).Nodup := (srtd_perm M).nodup_iff.2 hn
  refine List.Pairwise.imp ?_ (List.pairwise_and_iff.2 ⟨h1, h2⟩)
  rintro a b ⟨hab, hne⟩
  rw [le_bl] at hab
  simp only [Bool.not_eq_true'] at hab
  rcases bl_tri a b with h | h | h
  · exact h
  · exact absurd h hne
  · rw [hab] at h; cases h

theorem srt_unique : ∀ {A B : List (List UInt8)}, Srt A → Srt B → A.Perm B → A = B
  | [], B, _, _, hp => by rw [List.nil_perm.1 hp]
  | a :: A, [], _, _, hp => absurd (List.perm_nil.1 hp) (by simp)
  | a :: A, b :: B, ha, hb, hp => by
    have ha' := List.pairwise_cons.1 ha
    have hb' := List.pairwise_cons.1 hb
    have e : a = b := by
      have h1 : a ∈ b :: B := hp.mem_iff.1 (by simp)
      have h2 : b ∈ a :: A := hp.mem_iff.2 (by simp)
      rcases List.mem_cons.1 h1 with h | h
      · exact h
      · rcases List.mem_cons.1 h2 with g | g
        · exact g.symm
        · have := bl_trans (hb'.1 a h) (ha'.1 b g)
          rw [bl_irrefl] at this; cases this
    subst e
    rw [srt_unique ha'.2 hb'.2 (List.perm_cons a |>.1 hp)]

theorem srtd_filter {S : List (List UInt8)} (hn : S.Nodup) (f : List UInt8 → Bool) : srtd (S.filter f) = (srtd S).filter f := by
  refine srt_unique (srtd_srt (List.Nodup.sublist List.filter_sublist hn)) (List.Pairwise.sublist List.filter_sublist (srtd_srt hn)) ?_
  exact (srtd_perm _).trans ((srtd_perm S).filter f).symm

theorem sort39_nil (w : World) : Calls Yatv.prog 39 #[.slice none 0 0] w fun e w' => e = .returned (.tuple #[]) ∧ w' = w :=
  Any.slices_Sort_string_none Yatv.laysSort none 0 w

end Go.Proofs.Ymwhat
