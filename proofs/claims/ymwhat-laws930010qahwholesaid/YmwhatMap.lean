import Derived.Test.YmwhatRemW
import Derived.Deep.OwnRows
import Derived.Laws.BytesArg
set_option linter.unusedVariables false
set_option linter.unusedSimpArgs false
namespace Go.Proofs.Ymwhat
open Go.RowKit

/-- A string of these bytes. -/
def bs (l : List UInt8) : ByteArray := ⟨l.toArray⟩
theorem bs_data (l : List UInt8) : (bs l).data.toList = l := rfl
theorem bs_of (s : ByteArray) : bs s.data.toList = s := by
  cases s; simp [bs]
theorem bs_size (l : List UInt8) : (bs l).size = l.length := by simp [bs, ByteArray.size]

def mapL (m : Nat) (l : List UInt8) : List UInt8 := l.map (fun c => UInt8.ofNat (97 + c.toNat % m))
theorem mapL_length (m : Nat) (l : List UInt8) : (mapL m l).length = l.length := by simp [mapL]
theorem mapL_valid (m : Nat) (hm : 0 < m) (hm' : m ≤ 26) (l : List UInt8) : validB (mapL m l) = true := by
  rw [validB_iff]
  intro c hc
  simp only [mapL, List.mem_map] at hc
  obtain ⟨a, _, rfl⟩ := hc
  have := Nat.mod_lt a.toNat hm
  have e : (UInt8.ofNat (97 + a.toNat % m)).toNat = 97 + a.toNat % m := by
    simp; omega
  rw [e]; omega

/-- The bytes as they lie in memory when k of them are mapped. -/
def mcell (m : Nat) (s : ByteArray) (k j : Nat) : Value := if j < k then .int .u8 (97 + (s.data.toList.getD j 0).toNat % m) else .int .u8 0

theorem mcell_succ (m : Nat) (s : ByteArray) (k j : Nat) (h : k < s.size) : (if j = k then Value.int .u8 (97 + (s[k].toNat : Int) % (m : Int)) else mcell m s k j) = mcell m s (k + 1) j := by
  unfold mcell
  by_cases e : j = k
  · subst e
    rw [if_pos rfl, if_pos (by omega)]
    have : s.data.toList.getD j 0 = s[j] := by
      rw [getElem_data s j h]; simp [List.getD, h]
    rw [this]
  · rw [if_neg e]
    by_cases h2 : j < k
    · rw [if_pos h2, if_pos (by omega)]
    · rw [if_neg h2, if_neg (by omega)]

theorem mcell_str (m : Nat) (hm : 0 < m) (hm' : m ≤ 26) (s : ByteArray) : strOfNums ((List.range s.size).map fun j => 97 + ((s.data.toList.getD j 0).toNat : Int) % (m : Int)) = bs (mapL m s.data.toList) := by
  unfold strOfNums bs mapL
  congr 2
  apply List.ext_getElem
  · simp
  · intro i h1 h2
    have h3 : i < s.data.toList.length := by simpa using h2
    have e : s.data.toList.getD i 0 = s.data.toList[i] := by simp [List.getD, List.getElem?_eq_getElem h3]
    simp only [List.getElem_map, List.getElem_range, e]
    congr 1

theorem Yatv.info5 : (Yatv.prog.info? 5).map (fun i => (i.zero, i.size, i.bytes)) = some (some (.int .u8 0), 1, 1) := by kernel_rfl

set_option maxHeartbeats 800000 in
theorem map11_any (s : ByteArray) (w : World) (hs : s.size ≤ 1000000000) :
    Calls Yatv.prog 11 #[.string s] w fun e w' => e = .returned (.string (bs (mapL 4 s.data.toList))) ∧ Below w.heap.size w w' := by
  have hmk := run_make_row' (P := Yatv.prog) 60 5 (.int .u8 0) 1 Yatv.underlying60 Yatv.info5 rfl .i64 .i64 s.size (by omega) (by omega)
  go_enter Yatv.func11, Yatv.ntmps11
  go_wp2
  clear hmk
  go_loopw [4] (fun i wr => ∃ k : Nat, i = .int .i64 k ∧ k ≤ s.size ∧ Row wr 5 1 (.slice (some ⟨w.heap.size, 0, none⟩) s.size s.size) s.size (mcell 4 s k) ∧ Below w.heap.size w wr) (fun i _ => s.size - (intOf i).toNat)
  case atStart =>
    refine ⟨0, rfl, Nat.zero_le _, ?_, (Below.refl _ _).alloc (Nat.le_refl _) _⟩
    exact Row.new w 5 1 s.size _ _ (by unfold maxLen; omega) (by simp [size_madeCells]) (fun i hi => by have hi' : i < s.size := (by omega); simp [madeCells, mcell, Nat.mod_one, hi'])
  case round =>
    obtain ⟨k, rfl, hk, hr, hb⟩ := hrel
    by_cases hlt : k < s.size
    · have hc := hr.cell (i := k) (by omega)
      simp only [mcell, Nat.lt_irrefl, if_false] at hc
      have hf := hr.frozen k
      have h256 : s[k].toNat < 256 := s[k].toNat_lt
      have HR := hid (hr.set k (.int .u8 (97 + (s[k].toNat : Int) % ((4 : Nat) : Int))))
      have HB := hid hb
      clear hr hb
      go_wp2
      go_roundw
      case rel => exact ⟨k + 1, by go_num, by omega, HR.out.congr (fun j _ => mcell_succ 4 s k j hlt), HB.out.setCell (p := ⟨w.heap.size, k, none⟩) (Nat.le_refl _) _⟩
      case measure => simp [intOf]; omega
    · obtain rfl : k = s.size := by omega
      have hcv := run_convert_bytes_arg (P := Yatv.prog) wr 60 5 Yatv.underlying60 Yatv.underlying5 w.heap.size 0 s.size s.size ((List.range s.size).map fun j => 97 + ((s.data.toList.getD j 0).toNat : Int) % ((4 : Nat) : Int)) (by simp) (fun i hi => by
        rw [Nat.zero_add, hr.cell (i := i) (by omega)]
        simp [mcell, hi]) 9 Yatv.underlying9
      rw [mcell_str 4 (by decide) (by decide) s] at hcv
      have HB := hid hb
      clear hr hb
      go_wp2
      go_ret
      exact ⟨rfl, HB.out⟩

set_option maxHeartbeats 800000 in
theorem map47_any (s : ByteArray) (w : World) (hs : s.size ≤ 1000000000) :
    Calls Yatv.prog 47 #[.string s] w fun e w' => e = .returned (.string (bs (mapL 3 s.data.toList))) ∧ Below w.heap.size w w' := by
  have hmk := run_make_row' (P := Yatv.prog) 60 5 (.int .u8 0) 1 Yatv.underlying60 Yatv.info5 rfl .i64 .i64 s.size (by omega) (by omega)
  go_enter Yatv.func47, Yatv.ntmps47
  go_wp2
  clear hmk
  go_loopw [4] (fun i wr => ∃ k : Nat, i = .int .i64 k ∧ k ≤ s.size ∧ Row wr 5 1 (.slice (some ⟨w.heap.size, 0, none⟩) s.size s.size) s.size (mcell 3 s k) ∧ Below w.heap.size w wr) (fun i _ => s.size - (intOf i).toNat)
  case atStart =>
    refine ⟨0, rfl, Nat.zero_le _, ?_, (Below.refl _ _).alloc (Nat.le_refl _) _⟩
    exact Row.new w 5 1 s.size _ _ (by unfold maxLen; omega) (by simp [size_madeCells]) (fun i hi => by have hi' : i < s.size := (by omega); simp [madeCells, mcell, Nat.mod_one, hi'])
  case round =>
    obtain ⟨k, rfl, hk, hr, hb⟩ := hrel
    by_cases hlt : k < s.size
    · have hc := hr.cell (i := k) (by omega)
      simp only [mcell, Nat.lt_irrefl, if_false] at hc
      have hf := hr.frozen k
      have h256 : s[k].toNat < 256 := s[k].toNat_lt
      have HR := hid (hr.set k (.int .u8 (97 + (s[k].toNat : Int) % ((3 : Nat) : Int))))
      have HB := hid hb
      clear hr hb
      go_wp2
      go_roundw
      case rel => exact ⟨k + 1, by go_num, by omega, HR.out.congr (fun j _ => mcell_succ 3 s k j hlt), HB.out.setCell (p := ⟨w.heap.size, k, none⟩) (Nat.le_refl _) _⟩
      case measure => simp [intOf]; omega
    · obtain rfl : k = s.size := by omega
      have hcv := run_convert_bytes_arg (P := Yatv.prog) wr 60 5 Yatv.underlying60 Yatv.underlying5 w.heap.size 0 s.size s.size ((List.range s.size).map fun j => 97 + ((s.data.toList.getD j 0).toNat : Int) % ((3 : Nat) : Int)) (by simp) (fun i hi => by
        rw [Nat.zero_add, hr.cell (i := i) (by omega)]
        simp [mcell, hi]) 9 Yatv.underlying9
      rw [mcell_str 3 (by decide) (by decide) s] at hcv
      have HB := hid hb
      clear hr hb
      go_wp2
      go_ret
      exact ⟨rfl, HB.out⟩

set_option maxHeartbeats 800000 in
theorem map49_any (s : ByteArray) (w : World) (hs : s.size ≤ 1000000000) :
    Calls Yatv.prog 49 #[.string s] w fun e w' => e = .returned (.string (bs (mapL 3 s.data.toList))) ∧ Below w.heap.size w w' := by
  have hmk := run_make_row' (P := Yatv.prog) 60 5 (.int .u8 0) 1 Yatv.underlying60 Yatv.info5 rfl .i64 .i64 s.size (by omega) (by omega)
  go_enter Yatv.func49, Yatv.ntmps49
  go_wp2
  clear hmk
  go_loopw [4] (fun i wr => ∃ k : Nat, i = .int .i64 k ∧ k ≤ s.size ∧ Row wr 5 1 (.slice (some ⟨w.heap.size, 0, none⟩) s.size s.size) s.size (mcell 3 s k) ∧ Below w.heap.size w wr) (fun i _ => s.size - (intOf i).toNat)
  case atStart =>
    refine ⟨0, rfl, Nat.zero_le _, ?_, (Below.refl _ _).alloc (Nat.le_refl _) _⟩
    exact Row.new w 5 1 s.size _ _ (by unfold maxLen; omega) (by simp [size_madeCells]) (fun i hi => by have hi' : i < s.size := (by omega); simp [madeCells, mcell, Nat.mod_one, hi'])
  case round =>
    obtain ⟨k, rfl, hk, hr, hb⟩ := hrel
    by_cases hlt : k < s.size
    · have hc := hr.cell (i := k) (by omega)
      simp only [mcell, Nat.lt_irrefl, if_false] at hc
      have hf := hr.frozen k
      have h256 : s[k].toNat < 256 := s[k].toNat_lt
      have HR := hid (hr.set k (.int .u8 (97 + (s[k].toNat : Int) % ((3 : Nat) : Int))))
      have HB := hid hb
      clear hr hb
      go_wp2
      go_roundw
      case rel => exact ⟨k + 1, by go_num, by omega, HR.out.congr (fun j _ => mcell_succ 3 s k j hlt), HB.out.setCell (p := ⟨w.heap.size, k, none⟩) (Nat.le_refl _) _⟩
      case measure => simp [intOf]; omega
    · obtain rfl : k = s.size := by omega
      have hcv := run_convert_bytes_arg (P := Yatv.prog) wr 60 5 Yatv.underlying60 Yatv.underlying5 w.heap.size 0 s.size s.size ((List.range s.size).map fun j => 97 + ((s.data.toList.getD j 0).toNat : Int) % ((3 : Nat) : Int)) (by simp) (fun i hi => by
        rw [Nat.zero_add, hr.cell (i := i) (by omega)]
        simp [mcell, hi]) 9 Yatv.underlying9
      rw [mcell_str 3 (by decide) (by decide) s] at hcv
      have HB := hid hb
      clear hr hb
      go_wp2
      go_ret
      exact ⟨rfl, HB.out⟩

set_option maxHeartbeats 800000 in
theorem map41_any (s : ByteArray) (w : World) (hs : s.size ≤ 1000000000) :
    Calls Yatv.prog 41 #[.string s] w fun e w' => e = .returned (.string (bs (mapL 3 s.data.toList))) ∧ Below w.heap.size w w' := by
  have hmk := run_make_row' (P := Yatv.prog) 60 5 (.int .u8 0) 1 Yatv.underlying60 Yatv.info5 rfl .i64 .i64 s.size (by omega) (by omega)
  go_enter Yatv.func41, Yatv.ntmps41
  go_wp2
  clear hmk
  go_loopw [4] (fun i wr => ∃ k : Nat, i = .int .i64 k ∧ k ≤ s.size ∧ Row wr 5 1 (.slice (some ⟨w.heap.size, 0, none⟩) s.size s.size) s.size (mcell 3 s k) ∧ Below w.heap.size w wr) (fun i _ => s.size - (intOf i).toNat)
  case atStart =>
    refine ⟨0, rfl, Nat.zero_le _, ?_, (Below.refl _ _).alloc (Nat.le_refl _) _⟩
    exact Row.new w 5 1 s.size _ _ (by unfold maxLen; omega) (by simp [size_madeCells]) (fun i hi => by have hi' : i < s.size := (by omega); simp [madeCells, mcell, Nat.mod_one, hi'])
  case round =>
    obtain ⟨k, rfl, hk, hr, hb⟩ := hrel
    by_cases hlt : k < s.size
    · have hc := hr.cell (i := k) (by omega)
      simp only [mcell, Nat.lt_irrefl, if_false] at hc
      have hf := hr.frozen k
      have h256 : s[k].toNat < 256 := s[k].toNat_lt
      have HR := hid (hr.set k (.int .u8 (97 + (s[k].toNat : Int) % ((3 : Nat) : Int))))
      have HB := hid hb
      clear hr hb
      go_wp2
      go_roundw
      case rel => exact ⟨k + 1, by go_num, by omega, HR.out.congr (fun j _ => mcell_succ 3 s k j hlt), HB.out.setCell (p := ⟨w.heap.size, k, none⟩) (Nat.le_refl _) _⟩
      case measure => simp [intOf]; omega
    · obtain rfl : k = s.size := by omega
      have hcv := run_convert_bytes_arg (P := Yatv.prog) wr 60 5 Yatv.underlying60 Yatv.underlying5 w.heap.size 0 s.size s.size ((List.range s.size).map fun j => 97 + ((s.data.toList.getD j 0).toNat : Int) % ((3 : Nat) : Int)) (by simp) (fun i hi => by
        rw [Nat.zero_add, hr.cell (i := i) (by omega)]
        simp [mcell, hi]) 9 Yatv.underlying9
      rw [mcell_str 3 (by decide) (by decide) s] at hcv
      have HB := hid hb
      clear hr hb
      go_wp2
      go_ret
      exact ⟨rfl, HB.out⟩

set_option maxHeartbeats 800000 in
theorem map37_any (s : ByteArray) (w : World) (hs : s.size ≤ 1000000000) :
    Calls Yatv.prog 37 #[.string s] w fun e w' => e = .returned (.string (bs (mapL 4 s.data.toList))) ∧ Below w.heap.size w w' := by
  have hmk := run_make_row' (P := Yatv.prog) 60 5 (.int .u8 0) 1 Yatv.underlying60 Yatv.info5 rfl .i64 .i64 s.size (by omega) (by omega)
  go_enter Yatv.func37, Yatv.ntmps37
  go_wp2
  clear hmk
  go_loopw [4] (fun i wr => ∃ k : Nat, i = .int .i64 k ∧ k ≤ s.size ∧ Row wr 5 1 (.slice (some ⟨w.heap.size, 0, none⟩) s.size s.size) s.size (mcell 4 s k) ∧ Below w.heap.size w wr) (fun i _ => s.size - (intOf i).toNat)
  case atStart =>
    refine ⟨0, rfl, Nat.zero_le _, ?_, (Below.refl _ _).alloc (Nat.le_refl _) _⟩
    exact Row.new w 5 1 s.size _ _ (by unfold maxLen; omega) (by simp [size_madeCells]) (fun i hi => by have hi' : i < s.size := (by omega); simp [madeCells, mcell, Nat.mod_one, hi'])
  case round =>
    obtain ⟨k, rfl, hk, hr, hb⟩ := hrel
    by_cases hlt : k < s.size
    · have hc := hr.cell (i := k) (by omega)
      simp only [mcell, Nat.lt_irrefl, if_false] at hc
      have hf := hr.frozen k
      have h256 : s[k].toNat < 256 := s[k].toNat_lt
      have HR := hid (hr.set k (.int .u8 (97 + (s[k].toNat : Int) % ((4 : Nat) : Int))))
      have HB := hid hb
      clear hr hb
      go_wp2
      go_roundw
      case rel => exact ⟨k + 1, by go_num, by omega, HR.out.congr (fun j _ => mcell_succ 4 s k j hlt), HB.out.setCell (p := ⟨w.heap.size, k, none⟩) (Nat.le_refl _) _⟩
      case measure => simp [intOf]; omega
    · obtain rfl : k = s.size := by omega
      have hcv := run_convert_bytes_arg (P := Yatv.prog) wr 60 5 Yatv.underlying60 Yatv.underlying5 w.heap.size 0 s.size s.size ((List.range s.size).map fun j => 97 + ((s.data.toList.getD j 0).toNat : Int) % ((4 : Nat) : Int)) (by simp) (fun i hi => by
        rw [Nat.zero_add, hr.cell (i := i) (by omega)]
        simp [mcell, hi]) 9 Yatv.underlying9
      rw [mcell_str 4 (by decide) (by decide) s] at hcv
      have HB := hid hb
      clear hr hb
      go_wp2
      go_ret
      exact ⟨rfl, HB.out⟩

end Go.Proofs.Ymwhat
