import Derived.Test.YmwhatQuery
import Derived.Deep.Cut
set_option linter.unusedVariables false
set_option linter.unusedSimpArgs false
namespace Go.Proofs.Ymwhat
open Go.RowKit

theorem extract_toList (s : ByteArray) (n : Nat) : (s.extract 0 n).data.toList = s.data.toList.take n := by
  rw [ByteArray.data_extract]
  simp

set_option maxHeartbeats 1000000 in
theorem word30 (s : ByteArray) (w : World) (hs : s.size ≤ 9223372036854775807) :
    Calls Yatv.prog 30 #[.string s] w fun e w' => e = .returned (.string (bs (mapL 3 (s.data.toList.take 64)))) ∧ Below w.heap.size w w' := by
  by_cases h64 : 64 < s.size
  case neg =>
    have h64' : ¬ (64 : Int) < (s.size : Int) := by omega
    have hmk := run_make_row' (P := Yatv.prog) 60 5 (.int .u8 0) 1 Yatv.underlying60 Yatv.info5 rfl .i64 .i64 s.size (by omega) (by omega)
    have HT : Hid (s.data.toList.take 64 = s.data.toList) := List.take_of_length_le (by simp; omega)
    go_enter Yatv.func30, Yatv.ntmps30
    go_wp2
    clear hmk
    go_loopw [4] (fun i wr => ∃ k : Nat, i = .int .i64 k ∧ k ≤ s.size ∧ Row wr 5 1 (.slice (some ⟨w.heap.size, 0, none⟩) s.size s.size) s.size (mcell 3 s k) ∧ Below w.heap.size w wr) (fun i _ => s.size - (intOf i).toNat)
    case atStart =>
      refine ⟨0, rfl, Nat.zero_le _, ?_, (Below.refl _ _).alloc (Nat.le_refl _) _⟩
      exact Row.new w 5 1 s.size _ _ (by unfold maxLen; omega) (by simp [size_madeCells]) (fun i hi => by have hi' : i < s.size := (by omega); simp [madeCells, mcell, Nat.mod_one, hi'])
    case round =>
      obtain ⟨k, rfl, hk, hr, hb⟩ := hrel
      by_cases hlt : k < s.size
      · have hc := hr.cell (i := k) (by omega)
        simp only [mcell, Nat.lt_irrefl, if_false] at hc
        have hf := hr.frozen k
        have h256 : s[k].toNat < 256 := s[k].toNat_lt
        have HR := hid (hr.set k (.int .u8 (97 + (s[k].toNat : Int) % ((3 : Nat) : Int))))
        have HB := hid hb
        clear hr hb
        go_wp2
        go_roundw
        case rel => exact ⟨k + 1, by go_num, by omega, HR.out.congr (fun j _ => mcell_succ 3 s k j hlt), HB.out.setCell (p := ⟨w.heap.size, k, none⟩) (Nat.le_refl _) _⟩
        case measure => simp [intOf]; omega
      · obtain rfl : k = s.size := by omega
        have hcv := run_convert_bytes_arg (P := Yatv.prog) wr 60 5 Yatv.underlying60 Yatv.underlying5 w.heap.size 0 s.size s.size ((List.range s.size).map fun j => 97 + ((s.data.toList.getD j 0).toNat : Int) % ((3 : Nat) : Int)) (by simp) (fun i hi => by
          rw [Nat.zero_add, hr.cell (i := i) (by omega)]
          simp [mcell, hi]) 9 Yatv.underlying9
        rw [mcell_str 3 (by decide) (by decide) s] at hcv
        have HB := hid hb
        clear hr hb
        go_wp2
        go_ret
        rw [HT.out]
        exact ⟨rfl, HB.out⟩
  case pos =>
    have h64' : (64 : Int) < (s.size : Int) := by omega
    obtain ⟨z, hz⟩ : ∃ z, s.extract 0 64 = z := ⟨_, rfl⟩
    have hzs : z.size = 64 := by rw [← hz, ByteArray.size_extract]; omega
    have HZ : Hid (z.data.toList = s.data.toList.take 64) := by rw [← hz]; exact extract_toList s 64
    have hmk := run_make_row' (P := Yatv.prog) 60 5 (.int .u8 0) 1 Yatv.underlying60 Yatv.info5 rfl .i64 .i64 z.size (by omega) (by omega)
    have hz1 : z.size ≤ 64 := by omega
    have hz2 : 64 ≤ z.size := by omega
    have HZZ := hid hzs
    clear hzs
    go_enter Yatv.func30, Yatv.ntmps30
    go_wp2
    clear hmk
    go_loopw [4] (fun i wr => ∃ k : Nat, i = .int .i64 k ∧ k ≤ z.size ∧ Row wr 5 1 (.slice (some ⟨w.heap.size, 0, none⟩) z.size z.size) z.size (mcell 3 z k) ∧ Below w.heap.size w wr) (fun i _ => z.size - (intOf i).toNat)
    case atStart =>
      refine ⟨0, rfl, Nat.zero_le _, ?_, (Below.refl _ _).alloc (Nat.le_refl _) _⟩
      exact Row.new w 5 1 z.size _ _ (by unfold maxLen; omega) (by simp [size_madeCells]) (fun i hi => by have hi' : i < z.size := (by omega); simp [madeCells, mcell, Nat.mod_one, hi'])
    case round =>
      obtain ⟨k, rfl, hk, hr, hb⟩ := hrel
      by_cases hlt : k < z.size
      · have hc := hr.cell (i := k) (by omega)
        simp only [mcell, Nat.lt_irrefl, if_false] at hc
        have hf := hr.frozen k
        have h256 : z[k].toNat < 256 := z[k].toNat_lt
        have HR := hid (hr.set k (.int .u8 (97 + (z[k].toNat : Int) % ((3 : Nat) : Int))))
        have HB := hid hb
        clear hr hb
        go_wp2
        go_roundw
        case rel => exact ⟨k + 1, by go_num, by omega, HR.out.congr (fun j _ => mcell_succ 3 z k j hlt), HB.out.setCell (p := ⟨w.heap.size, k, none⟩) (Nat.le_refl _) _⟩
        case measure => simp [intOf]; omega
      · obtain rfl : k = z.size := by omega
        have hcv := run_convert_bytes_arg (P := Yatv.prog) wr 60 5 Yatv.underlying60 Yatv.underlying5 w.heap.size 0 z.size z.size ((List.range z.size).map fun j => 97 + ((z.data.toList.getD j 0).toNat : Int) % ((3 : Nat) : Int)) (by simp) (fun i hi => by
          rw [Nat.zero_add, hr.cell (i := i) (by omega)]
          simp [mcell, hi]) 9 Yatv.underlying9
        rw [mcell_str 3 (by decide) (by decide) z] at hcv
        have HB := hid hb
        clear hr hb
        go_wp2
        go_ret
        rw [← HZ.out]
        exact ⟨rfl, HB.out⟩

theorem LP.init (s : List UInt8) (n : Nat) : LP [] s n 0 false := .inr ⟨rfl, rfl, fun _ _ h => by simp at h⟩

theorem LP.add_hit {A : List (List UInt8)} {q x : List UInt8} {b : Nat} {f : Bool} (h : LP A q q.length b f) (hx : x.length ≤ q.length) (e : q.take x.length = x) (b' : Nat) (hb : b' = if f = false ∨ b < x.length then x.length else b) : LP (A ++ [x]) q q.length b' true := by
  have key : ∀ k, k ≤ q.length → q.take k ∈ A ++ [x] → q.take k ∈ A ∨ k = x.length := fun k hk hm => by
    rw [List.mem_append] at hm
    rcases hm with hm | hm
    · exact .inl hm
    · right
      have := congrArg List.length (List.mem_singleton.1 hm)
      rw [List.length_take] at this
      omega
  rcases h with ⟨rfl, h1, h2, h3⟩ | ⟨rfl, rfl, h3⟩
  · by_cases hlt : b < x.length
    · rw [if_pos (.inr hlt)] at hb
      subst hb
      refine .inl ⟨rfl, hx, by rw [e]; simp, fun k hk hm => ?_⟩
      rcases key k hk hm with g | g
      · have := h3 k hk g; omega
      · omega
    · rw [if_neg (by simp; omega)] at hb
      subst hb
      refine .inl ⟨rfl, h1, List.mem_append_left _ h2, fun k hk hm => ?_⟩
      rcases key k hk hm with g | g
      · exact h3 k hk g
      · omega
  · rw [if_pos (.inl rfl)] at hb
    subst hb
    refine .inl ⟨rfl, hx, by rw [e]; simp, fun k hk hm => ?_⟩
    rcases key k hk hm with g | g
    · exact absurd g (h3 k hk)
    · omega

theorem LP.add_miss {A : List (List UInt8)} {q x : List UInt8} {b : Nat} {f : Bool} (h : LP A q q.length b f) (hx : ¬ (x.length ≤ q.length ∧ q.take x.length = x)) : LP (A ++ [x]) q q.length b f := by
  have key : ∀ k, k ≤ q.length → q.take k ∈ A ++ [x] → q.take k ∈ A := fun k hk hm => by
    rw [List.mem_append] at hm
    rcases hm with hm | hm
    · exact hm
    · exfalso
      have hm := List.mem_singleton.1 hm
      have := congrArg List.length hm
      rw [List.length_take, Nat.min_eq_left hk] at this
      exact hx ⟨by omega, by rw [← this]; exact hm⟩
  rcases h with ⟨rfl, h1, h2, h3⟩ | ⟨rfl, rfl, h3⟩
  · exact .inl ⟨rfl, h1, List.mem_append_left _ h2, fun k hk hm => h3 k hk (key k hk hm)⟩
  · exact .inr ⟨rfl, rfl, fun k hk hm => h3 k hk (key k hk hm)⟩

set_option maxHeartbeats 1000000 in
theorem longest34 {w : World} {v : Value} {M : List (List UInt8)} (h : SR w v M) (hn : M.length ≤ 1000000000) (q : ByteArray) (hq : q.size ≤ 1000000000) :
    Calls Yatv.prog 34 #[v, .string q] w fun e w' => ∃ (b : Nat) (f : Bool), e = .returned (.tuple #[.int .i64 b, .bool f]) ∧ LP M q.data.toList q.size b f ∧ w' = w := by
  have hlen : q.data.toList.length = q.size := by simp
  obtain ⟨ao, cap, rfl, hao⟩ := h.form
  have HH := hid h
  have HAO := hid hao
  have HL := hid hlen
  clear h hao hlen
  go_enter Yatv.func34, Yatv.ntmps34
  go_wp2
  go_loopw [6, 7, 8, 9] (fun b f i _ wr => wr = w ∧ ∃ (bb k : Nat) (ff : Bool), b = .int .i64 bb ∧ f = .bool ff ∧ i = .int .i64 k ∧ k ≤ M.length ∧ bb ≤ q.size ∧ LP (M.take k) q.data.toList q.data.toList.length bb ff) (fun _ _ i _ _ => M.length - (intOf i).toNat)
  case atStart => exact ⟨rfl, 0, 0, false, rfl, rfl, rfl, Nat.zero_le _, Nat.zero_le _, LP.init _ _⟩
  case round =>
    obtain ⟨rfl, bb, k, ff, rfl, rfl, rfl, hk, hbb, hlp⟩ := hrel
    have HLP := hid hlp
    clear hlp
    by_cases hlt : k < M.length
    · obtain ⟨g, rfl⟩ := HAO.out (by omega)
      obtain ⟨x, hx, ex⟩ := HH.out.cell k hlt
      have hxl : x.data.toList.length = x.size := by simp
      have HT : Hid (M.take (k + 1) = M.take k ++ [x.data.toList]) := by rw [ex]; exact List.take_succ_eq_append_getElem hlt
      clear ex
      by_cases hle : x.size ≤ q.size
      · have hle' : (x.size : Int) ≤ (q.size : Int) := by omega
        by_cases he : q.data.toList.take x.size = x.data.toList
        · have hqe : ((q.extract 0 x.size).toList == x.toList) = true := by rw [beq_str, extract_toList, he]; simp
          have HE := hid he
          have HXL := hid hxl
          clear he hxl
          cases ff
          · go_wp2
            go_roundw
            case rel =>
              refine ⟨by trivial, x.size, k + 1, true, rfl, rfl, by go_num, by omega, hle, ?_⟩
              rw [HT.out]
              exact HLP.out.add_hit (by rw [HXL.out, HL.out]; exact hle) (by rw [HXL.out]; exact HE.out) _ (by rw [if_pos (.inl rfl), HXL.out])
            case measure => simp [intOf]; omega
          · by_cases hgt : bb < x.size
            · have hgt' : (bb : Int) < (x.size : Int) := by omega
              go_wp2
              go_roundw
              case rel =>
                refine ⟨by trivial, x.size, k + 1, true, rfl, rfl, by go_num, by omega, hle, ?_⟩
                rw [HT.out]
                exact HLP.out.add_hit (by rw [HXL.out, HL.out]; exact hle) (by rw [HXL.out]; exact HE.out) _ (by rw [if_pos (.inr (by rw [HXL.out]; exact hgt)), HXL.out])
              case measure => simp [intOf]; omega
            · have hgt' : ¬ (bb : Int) < (x.size : Int) := by omega
              go_wp2
              go_roundw
              case rel =>
                refine ⟨by trivial, bb, k + 1, true, rfl, rfl, by go_num, by omega, hbb, ?_⟩
                rw [HT.out]
                exact HLP.out.add_hit (by rw [HXL.out, HL.out]; exact hle) (by rw [HXL.out]; exact HE.out) _ (by rw [if_neg (by rw [HXL.out]; simp; omega)])
              case measure => simp [intOf]; omega
        · have hqe : ((q.extract 0 x.size).toList == x.toList) = false := by rw [beq_str, extract_toList]; exact decide_eq_false he
          have HE := hid he
          have HXL := hid hxl
          clear he hxl
          go_wp2
          go_roundw
          case rel =>
            refine ⟨by trivial, bb, k + 1, ff, rfl, rfl, by go_num, by omega, hbb, ?_⟩
            rw [HT.out]
            exact HLP.out.add_miss (fun ⟨_, e⟩ => HE.out (by rw [HXL.out] at e; exact e))
          case measure => simp [intOf]; omega
      · have hle' : ¬ (x.size : Int) ≤ (q.size : Int) := by omega
        have hle2 : decide ((x.size : Int) ≤ (q.size : Int)) = false := by simp; omega
        have HXL := hid hxl
        clear hxl
        go_wp2
        go_roundw
        case rel =>
          refine ⟨by trivial, bb, k + 1, ff, rfl, rfl, by go_num, by omega, hbb, ?_⟩
          rw [HT.out]
          exact HLP.out.add_miss (fun ⟨e, _⟩ => by rw [HXL.out, HL.out] at e; omega)
        case measure => simp [intOf]; omega
    · go_wp2
      go_ret2
      refine ⟨bb, ff, rfl, ?_, rfl⟩
      have := HLP.out
      rw [List.take_of_length_le (by omega), HL.out] at this
      exact this

end Go.Proofs.Ymwhat
