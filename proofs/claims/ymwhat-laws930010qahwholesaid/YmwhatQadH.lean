import Derived.Test.YmwhatWord
import Derived.Lib.SliceRun
set_option linter.unusedVariables false
set_option linter.unusedSimpArgs false
namespace Go.Proofs.Ymwhat
open Go.RowKit

set_option maxHeartbeats 800000 in
theorem valid27 (s : ByteArray) (w : World) (hs : s.size ≤ 1000000000) :
    Calls Yatv.prog 27 #[.string s] w fun e w' => e = .returned (.bool (validB s.data.toList)) ∧ w' = w := by
  go_enter Yatv.func27, Yatv.ntmps27
  go_wp2
  go_loopw [3] (fun i wr => wr = w ∧ ∃ b : Nat, i = .int .i64 b ∧ b ≤ s.size ∧ validB (s.data.toList.drop b) = validB s.data.toList) (fun i _ => s.size - (intOf i).toNat)
  case atStart => exact ⟨rfl, 0, rfl, Nat.zero_le _, rfl⟩
  case round =>
    obtain ⟨rfl, b, rfl, hb, hr⟩ := hrel
    have HR := hid hr
    clear hr
    by_cases hlt : b < s.size
    · have hd := drop_cons s b hlt
      have HD : Hid (validB s.data.toList = (decide (97 ≤ s[b].toNat ∧ s[b].toNat ≤ 122) && validB (s.data.toList.drop (b + 1)))) := by
        show _ = _
        rw [← HR.out, hd, validB_cons]
      clear hd HR
      have h256 : s[b].toNat < 256 := s[b].toNat_lt
      by_cases h1 : s[b].toNat < 97
      · have h1' : (s[b].toNat : Int) < 97 := by omega
        go_wp2
        go_ret
        rw [HD.out]
        refine ⟨?_, rfl⟩
        simp
        omega
      · have h1' : ¬ (s[b].toNat : Int) < 97 := by omega
        by_cases h2 : 122 < s[b].toNat
        · have h2' : (122 : Int) < (s[b].toNat : Int) := by omega
          go_wp2
          go_ret
          rw [HD.out]
          refine ⟨?_, rfl⟩
          simp
          omega
        · have h2' : ¬ (122 : Int) < (s[b].toNat : Int) := by omega
          go_wp2
          go_roundw
          case rel =>
            refine ⟨by trivial, b + 1, by go_num, by omega, ?_⟩
            rw [HD.out]
            have : (97 ≤ s[b].toNat ∧ s[b].toNat ≤ 122) := by omega
            simp [this]
          case measure => simp [intOf]; omega
    · go_wp2
      go_ret
      have : s.data.toList.drop b = [] := List.drop_of_length_le (by simp; omega)
      rw [← HR.out, this]
      exact ⟨rfl, rfl⟩

set_option maxHeartbeats 800000 in
theorem valid44 (s : ByteArray) (w : World) (hs : s.size ≤ 1000000000) :
    Calls Yatv.prog 44 #[.string s] w fun e w' => e = .returned (.bool (validB s.data.toList)) ∧ w' = w := by
  go_enter Yatv.func44, Yatv.ntmps44
  go_wp2
  go_loopw [3] (fun i wr => wr = w ∧ ∃ b : Nat, i = .int .i64 b ∧ b ≤ s.size ∧ validB (s.data.toList.drop b) = validB s.data.toList) (fun i _ => s.size - (intOf i).toNat)
  case atStart => exact ⟨rfl, 0, rfl, Nat.zero_le _, rfl⟩
  case round =>
    obtain ⟨rfl, b, rfl, hb, hr⟩ := hrel
    have HR := hid hr
    clear hr
    by_cases hlt : b < s.size
    · have hd := drop_cons s b hlt
      have HD : Hid (validB s.data.toList = (decide (97 ≤ s[b].toNat ∧ s[b].toNat ≤ 122) && validB (s.data.toList.drop (b + 1)))) := by
        show _ = _
        rw [← HR.out, hd, validB_cons]
      clear hd HR
      have h256 : s[b].toNat < 256 := s[b].toNat_lt
      by_cases h1 : s[b].toNat < 97
      · have h1' : (s[b].toNat : Int) < 97 := by omega
        go_wp2
        go_ret
        rw [HD.out]
        refine ⟨?_, rfl⟩
        simp
        omega
      · have h1' : ¬ (s[b].toNat : Int) < 97 := by omega
        by_cases h2 : 122 < s[b].toNat
        · have h2' : (122 : Int) < (s[b].toNat : Int) := by omega
          go_wp2
          go_ret
          rw [HD.out]
          refine ⟨?_, rfl⟩
          simp
          omega
        · have h2' : ¬ (122 : Int) < (s[b].toNat : Int) := by omega
          go_wp2
          go_roundw
          case rel =>
            refine ⟨by trivial, b + 1, by go_num, by omega, ?_⟩
            rw [HD.out]
            have : (97 ≤ s[b].toNat ∧ s[b].toNat ≤ 122) := by omega
            simp [this]
          case measure => simp [intOf]; omega
    · go_wp2
      go_ret
      have : s.data.toList.drop b = [] := List.drop_of_length_le (by simp; omega)
      rw [← HR.out, this]
      exact ⟨rfl, rfl⟩


/-- p is a beginning of s. -/
def preB (p s : List UInt8) : Bool := p.isPrefixOf s

theorem isPrefix_take (p s : List UInt8) : preB p s = decide (p.length ≤ s.length ∧ s.take p.length = p) := by
  unfold preB
  rw [Bool.eq_iff_iff, List.isPrefixOf_iff_prefix, decide_eq_true_iff]
  constructor
  · intro h
    exact ⟨h.length_le, (List.prefix_iff_eq_take.1 h).symm⟩
  · intro h
    exact List.prefix_iff_eq_take.2 h.2.symm

set_option maxHeartbeats 400000 in
theorem hasPre56 (s p : ByteArray) (w : World) (hs : s.size ≤ 1000000000) (hp : p.size ≤ 1000000000) :
    Calls Yatv.prog 56 #[.string s, .string p] w fun e w' => e = .returned (.bool (preB p.data.toList s.data.toList)) ∧ w' = w := by
  have e := isPrefix_take p.data.toList s.data.toList
  have l1 : p.data.toList.length = p.size := by simp
  have l2 : s.data.toList.length = s.size := by simp
  rw [l1, l2] at e
  rw [e]
  clear e l1 l2
  by_cases hle : p.size ≤ s.size
  · have hle' : (p.size : Int) ≤ (s.size : Int) := by omega
    by_cases he : s.data.toList.take p.size = p.data.toList
    · have hqe : ((s.extract 0 p.size).toList == p.toList) = true := by rw [beq_str, extract_toList, he]; simp
      have HE : Hid (decide (p.size ≤ s.size ∧ s.data.toList.take p.size = p.data.toList) = true) := decide_eq_true ⟨hle, he⟩
      rw [HE.out]
      clear he
      go_enter Yatv.func56, Yatv.ntmps56
      go_wp2
      go_ret
      exact ⟨rfl, rfl⟩
    · have hqe : ((s.extract 0 p.size).toList == p.toList) = false := by rw [beq_str, extract_toList]; exact decide_eq_false he
      have HE : Hid (decide (p.size ≤ s.size ∧ s.data.toList.take p.size = p.data.toList) = false) := decide_eq_false (fun h => he h.2)
      rw [HE.out]
      clear he
      go_enter Yatv.func56, Yatv.ntmps56
      go_wp2
      go_ret
      exact ⟨rfl, rfl⟩
  · have hle' : ¬ (p.size : Int) ≤ (s.size : Int) := by omega
    have hle2 : decide ((p.size : Int) ≤ (s.size : Int)) = false := decide_eq_false hle'
    have HE : Hid (decide (p.size ≤ s.size ∧ s.data.toList.take p.size = p.data.toList) = false) := decide_eq_false (fun h => hle h.1)
    rw [HE.out]
    go_enter Yatv.func56, Yatv.ntmps56
    go_wp2
    go_ret
    exact ⟨rfl, rfl⟩

set_option maxHeartbeats 400000 in
theorem hasPre29 (s p : ByteArray) (w : World) (hs : s.size ≤ 1000000000) (hp : p.size ≤ 1000000000) :
    Calls Yatv.prog 29 #[.string s, .string p] w fun e w' => e = .returned (.bool (preB p.data.toList s.data.toList)) ∧ w' = w := by
  go_enter Yatv.func29, Yatv.ntmps29
  go_wp2_with (go_at_call 56; refine (hasPre56 s p _ hs hp).mono ?_; rintro e w' ⟨rfl, rfl⟩)
  go_ret
  exact ⟨rfl, rfl⟩

/-- The bytes as they lie in memory when k of the first n are mapped. -/
theorem mcell_str_take (m : Nat) (hm : 0 < m) (hm' : m ≤ 26) (s : ByteArray) (n : Nat) (hn : n ≤ s.size) : strOfNums ((List.range n).map fun j => 97 + ((s.data.toList.getD j 0).toNat : Int) % (m : Int)) = bs (mapL m (s.data.toList.take n)) := by
  have h := mcell_str m hm hm' (bs (s.data.toList.take n))
  rw [bs_size, bs_data, List.length_take, Nat.min_eq_left (by simpa using hn)] at h
  rw [← h]
  congr 1
  apply List.map_congr_left
  intro j hj
  have hj' := List.mem_range.1 hj
  simp [List.getD, List.getElem?_take, hj']

set_option maxHeartbeats 1000000 in
theorem map23 (s : ByteArray) (w : World) (hs : s.size ≤ 9223372036854775807) :
    Calls Yatv.prog 23 #[.string s] w fun e w' => e = .returned (.string (bs (mapL 3 (s.data.toList.take 64)))) ∧ Below w.heap.size w w' := by
  obtain ⟨n, hn⟩ : ∃ n : Nat, n = min s.size 64 := ⟨_, rfl⟩
  have hns : n ≤ s.size := by omega
  have hn64 : n ≤ 64 := by omega
  have HT : Hid (s.data.toList.take 64 = s.data.toList.take n) := by
    show _ = _
    rw [hn]
    by_cases h : s.size ≤ 64
    · rw [Nat.min_eq_left h, List.take_of_length_le (by simpa using h), List.take_of_length_le (by simp)]
    · rw [Nat.min_eq_right (by omega)]
  have hmk := run_make_row' (P := Yatv.prog) 60 5 (.int .u8 0) 1 Yatv.underlying60 Yatv.info5 rfl .i64 .i64 n (by omega) (by omega)
  by_cases h64 : 64 < s.size
  case pos =>
    have h64' : (64 : Int) < (s.size : Int) := by omega
    have hn2 : (64 : Int) = (n : Int) := by omega
    have HN2 := hid hn2
    clear hn hn2
    go_enter Yatv.func23, Yatv.ntmps23
    go_upto_region 4 with (fail)
    rw [HN2.out]
    go_wp2
    clear hmk
    go_loopw [5] (fun i wr => ∃ k : Nat, i = .int .i64 k ∧ k ≤ n ∧ Row wr 5 1 (.slice (some ⟨w.heap.size, 0, none⟩) n n) n (mcell 3 s k) ∧ Below w.heap.size w wr) (fun i _ => n - (intOf i).toNat)
    case atStart =>
      refine ⟨0, rfl, Nat.zero_le _, ?_, (Below.refl _ _).alloc (Nat.le_refl _) _⟩
      exact Row.new w 5 1 n _ _ (by unfold maxLen; omega) (by simp [size_madeCells]) (fun i hi => by have hi' : i < n := (by omega); simp [madeCells, mcell, Nat.mod_one, hi'])
    case round =>
      obtain ⟨k, rfl, hk, hr, hb⟩ := hrel
      by_cases hlt : k < n
      · have hlts : k < s.size := by omega
        have hc := hr.cell (i := k) (by omega)
        simp only [mcell, Nat.lt_irrefl, if_false] at hc
        have hf := hr.frozen k
        have h256 : s[k].toNat < 256 := s[k].toNat_lt
        have HR := hid (hr.set k (.int .u8 (97 + (s[k].toNat : Int) % ((3 : Nat) : Int))))
        have HB := hid hb
        clear hr hb
        go_wp2
        go_roundw
        case rel => exact ⟨k + 1, by go_num, by omega, HR.out.congr (fun j _ => mcell_succ 3 s k j hlts), HB.out.setCell (p := ⟨w.heap.size, k, none⟩) (Nat.le_refl _) _⟩
        case measure => simp [intOf]; omega
      · obtain rfl : n = k := by omega
        have hcv := run_convert_bytes_arg (P := Yatv.prog) wr 60 5 Yatv.underlying60 Yatv.underlying5 w.heap.size 0 n n ((List.range n).map fun j => 97 + ((s.data.toList.getD j 0).toNat : Int) % ((3 : Nat) : Int)) (by simp) (fun i hi => by
          rw [Nat.zero_add, hr.cell (i := i) (by omega)]
          simp [mcell, hi]) 9 Yatv.underlying9
        rw [mcell_str_take 3 (by decide) (by decide) s n (by omega)] at hcv
        have HB := hid hb
        clear hr hb
        go_wp2
        go_ret
        rw [HT.out]
        exact ⟨rfl, HB.out⟩

  case neg =>
    have h64' : ¬ (64 : Int) < (s.size : Int) := by omega
    have hn2 : n = s.size := by omega
    subst hn2
    clear hn
    go_enter Yatv.func23, Yatv.ntmps23
    go_wp2
    clear hmk
    go_loopw [5] (fun i wr => ∃ k : Nat, i = .int .i64 k ∧ k ≤ s.size ∧ Row wr 5 1 (.slice (some ⟨w.heap.size, 0, none⟩) s.size s.size) s.size (mcell 3 s k) ∧ Below w.heap.size w wr) (fun i _ => s.size - (intOf i).toNat)
    case atStart =>
      refine ⟨0, rfl, Nat.zero_le _, ?_, (Below.refl _ _).alloc (Nat.le_refl _) _⟩
      exact Row.new w 5 1 s.size _ _ (by unfold maxLen; omega) (by simp [size_madeCells]) (fun i hi => by have hi' : i < s.size := (by omega); simp [madeCells, mcell, Nat.mod_one, hi'])
    case round =>
      obtain ⟨k, rfl, hk, hr, hb⟩ := hrel
      by_cases hlt : k < s.size
      · have hlts : k < s.size := by omega
        have hc := hr.cell (i := k) (by omega)
        simp only [mcell, Nat.lt_irrefl, if_false] at hc
        have hf := hr.frozen k
        have h256 : s[k].toNat < 256 := s[k].toNat_lt
        have HR := hid (hr.set k (.int .u8 (97 + (s[k].toNat : Int) % ((3 : Nat) : Int))))
        have HB := hid hb
        clear hr hb
        go_wp2
        go_roundw
        case rel => exact ⟨k + 1, by go_num, by omega, HR.out.congr (fun j _ => mcell_succ 3 s k j hlts), HB.out.setCell (p := ⟨w.heap.size, k, none⟩) (Nat.le_refl _) _⟩
        case measure => simp [intOf]; omega
      · obtain rfl : s.size = k := by omega
        have hcv := run_convert_bytes_arg (P := Yatv.prog) wr 60 5 Yatv.underlying60 Yatv.underlying5 w.heap.size 0 s.size s.size ((List.range s.size).map fun j => 97 + ((s.data.toList.getD j 0).toNat : Int) % ((3 : Nat) : Int)) (by simp) (fun i hi => by
          rw [Nat.zero_add, hr.cell (i := i) (by omega)]
          simp [mcell, hi]) 9 Yatv.underlying9
        rw [mcell_str_take 3 (by decide) (by decide) s s.size (by omega)] at hcv
        have HB := hid hb
        clear hr hb
        go_wp2
        go_ret
        rw [HT.out]
        exact ⟨rfl, HB.out⟩


end Go.Proofs.Ymwhat
