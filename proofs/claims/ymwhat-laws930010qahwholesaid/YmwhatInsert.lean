import Derived.Test.YmwhatIns
set_option linter.unusedVariables false
set_option linter.unusedSimpArgs false
namespace Go.Proofs.Ymwhat
open Go.RowKit

set_option maxHeartbeats 400000 in
theorem insert_bad (p : Value) (s : ByteArray) (w : World) (hs : s.size ≤ 1000000000) (hv : validB s.data.toList = false) :
    Calls Yatv.prog 14 #[p, .string s] w fun e w' => e = .returned (.int .i64 2) ∧ w' = w := by
  have HV := hid hv
  clear hv
  go_enter Yatv.func14, Yatv.ntmps14
  go_wp2_with (go_at_call 53; refine (valid_val s _ hs false HV.out).mono ?_; rintro e w' ⟨rfl, rfl⟩)
  go_ret
  exact ⟨rfl, rfl⟩

set_option maxHeartbeats 400000 in
theorem insert_there {w : World} {tb : Nat} {F : Nat → Prop} {ps S : List (List UInt8)} {g : List UInt8 → Nat} (h : Tr w tb F ps (memb S) g) (hi : SInv ps S) (hk : ps.length ≤ 1000000000) (s : ByteArray) (hs : s.size ≤ 1000000000) (hv : validB s.data.toList = true) (hb : memb S s.data.toList = true) :
    Calls Yatv.prog 14 #[.pointer (some ⟨tb,0,none⟩), .string s] w fun e w' => e = .returned (.int .i64 1) ∧ w' = w := by
  have HV := hid hv
  have HB := hid hb
  have HT := hid h
  have HI := hid hi
  clear hv hb h hi
  go_enter Yatv.func14, Yatv.ntmps14
  go_wp2_with (first | (go_at_call 53; refine (valid_val s _ hs true HV.out).mono ?_; rintro e w' ⟨rfl, rfl⟩) | (go_at_call 19; refine (HT.out.has HI.out hk s hs true HB.out).mono ?_; rintro e w' ⟨rfl, rfl⟩))
  go_ret
  exact ⟨rfl, rfl⟩

/-- What holds at the head of Insert's loop, i letters put in. -/
def InsRel (w : World) (tb : Nat) (F : Nat → Prop) (ps S : List (List UInt8)) (s : List UInt8) (i n : Nat) (wr : World) : Prop :=
  i ≤ s.length ∧ n = (insTo ps s i).idxOf (s.take i) ∧ ∃ F', Tr wr tb F' (insTo ps s i) (memb S) (cntTo S s i) ∧ Moved F F' w wr

/-- The first node is made. -/
theorem T.root {w : World} {tb : Nat} {v0 v1 v2 : Value} {ps S : List (List UInt8)} (h : T w tb v0 v1 v2 (ps.length + 1) (nxt ps) (wx ps (memb S)) (bx ps (cnt S))) (hi : SInv ps S) (hz : ps.length = 0) :
    T w tb v0 v1 v2 (ext ps []).length (nxt (ext ps [])) (wx (ext ps []) (memb S)) (bx (ext ps []) (cnt S)) := by
  obtain rfl := List.eq_nil_of_length_eq_zero hz
  have hS : S = [] := by
    cases S with
    | nil => rfl
    | cons a r => exact absurd (hi.sub a (by simp)) (by simp)
  subst hS
  refine T.congr (k := 1) h (fun n l hn hl => ?_) (fun n hn => ?_) (fun n hn => ?_)
  · obtain rfl : n = 0 := by omega
    rw [nxt_none (by simp), nxt_some (p := []) (by simp [ext])]
    simp [ext]
  · obtain rfl : n = 0 := by omega
    simp [wx, ext, memb]
  · obtain rfl : n = 0 := by omega
    simp [bx, ext, cnt]

theorem ext_root_eq {ps : List (List UInt8)} (h : PInv ps) (hz : ¬ ps.length = 0) : ext ps [] = ps := by
  have : ps ≠ [] := fun e => hz (by simp [e])
  simp [ext, h.nil_mem this]

theorem ext_root_zero {ps : List (List UInt8)} (h : PInv ps) : (ext ps []).idxOf [] = 0 := by
  by_cases hz : ps.length = 0
  · obtain rfl := List.eq_nil_of_length_eq_zero hz
    simp [ext]
  · rw [ext_root_eq h hz]
    exact h.idx_eq (h.root (fun e => hz (by simp [e])))

/-- The root is counted. -/
theorem ins_start {w w1 : World} {tb g k c : Nat} {v0 v1 : Value} {F : Nat → Prop} {ps S : List (List UInt8)} (s : List UInt8) (hi : SInv ps S) (hT : T w1 tb v0 v1 (.slice (some ⟨g, 0, none⟩) k c) (ext ps []).length (nxt (ext ps [])) (wx (ext ps []) (memb S)) (bx (ext ps []) (cnt S)))
    (hM : Moved F (foot tb v0 v1 (.slice (some ⟨g, 0, none⟩) k c)) w w1) : InsRel w tb F ps S s 0 0 (w1.setCell ⟨g, 0, none⟩ (.int .i64 (bx (ext ps []) (cnt S) 0 + 1))) := by
  refine ⟨Nat.zero_le _, by simp [insTo, ext_root_zero hi.p], _, ⟨v0, v1, _, rfl, ?_⟩, hM.store (.inr (.inr (.inr rfl)))⟩
  refine (hT.setB 0 _).congr (fun _ _ _ _ => rfl) (fun _ _ => rfl) (fun n hn => ?_)
  have := bx_set (hi.p.ext_root) (f := cnt S) (f' := cntTo S s 0) (ext_self ps []) (fun q => by rw [cntTo_zero]) n hn
  rw [ext_root_zero hi.p] at this
  exact this

/-- The child is there. -/
theorem ins_old {w wr : World} {tb g k c i : Nat} {v0 v1 : Value} {F : Nat → Prop} {ps S : List (List UInt8)} {s : List UInt8} (hi : SInv ps S) (hv : validB s = true) (hlt : i < s.length) (hm : s.take (i + 1) ∈ insTo ps s i)
    (hT : T wr tb v0 v1 (.slice (some ⟨g, 0, none⟩) k c) (insTo ps s i).length (nxt (insTo ps s i)) (wx (insTo ps s i) (memb S)) (bx (insTo ps s i) (cntTo S s i)))
    (hM : Moved F (foot tb v0 v1 (.slice (some ⟨g, 0, none⟩) k c)) w wr) :
    InsRel w tb F ps S s (i + 1) ((insTo ps s i).idxOf (s.take (i + 1))) (wr.setCell ⟨g, (insTo ps s i).idxOf (s.take (i + 1)), none⟩ (.int .i64 (bx (insTo ps s i) (cntTo S s i) ((insTo ps s i).idxOf (s.take (i + 1))) + 1))) := by
  have e : insTo ps s (i + 1) = insTo ps s i := by simp [insTo, ext, hm]
  obtain ⟨hp, _⟩ := insTo_inv hi.p s hv i (by omega)
  refine ⟨by omega, by rw [e], _, ⟨v0, v1, _, rfl, ?_⟩, hM.store (.inr (.inr (.inr rfl)))⟩
  rw [e]
  exact (hT.setB _ _).congr (fun _ _ _ _ => rfl) (fun _ _ => rfl) (fun n hn => bx_set hp hm (fun q => cntTo_succ S s i hlt q) n hn)

theorem memb_new {ps S : List (List UInt8)} (hi : SInv ps S) {p : List UInt8} (hp : p ∉ ps) : memb S p = false := by
  simp only [memb, decide_eq_false_iff_not]
  exact fun h => hp (hi.sub p h)

/-- A new child: the link is laid. -/
theorem ins_link {w1 : World} {tb g k c i n : Nat} {v1 v2 : Value} {ps S : List (List UInt8)} {s : List UInt8} (hi : SInv ps S) (hv : validB s = true) (hlt : i < s.length) (hm : s.take (i + 1) ∉ insTo ps s i) (hn : n = (insTo ps s i).idxOf (s.take i))
    (hT : T w1 tb (.slice (some ⟨g, 0, none⟩) k c) v1 v2 ((insTo ps s i).length + 1) (nxt (insTo ps s i)) (wx (insTo ps s i) (memb S)) (bx (insTo ps s i) (cntTo S s i))) :
    T (w1.setCell ⟨g, n * 26 + (s[i].toNat - 97), none⟩ (.int .i64 (insTo ps s i).length)) tb (.slice (some ⟨g, 0, none⟩) k c) v1 v2 (insTo ps s (i + 1)).length (nxt (insTo ps s (i + 1))) (wx (insTo ps s (i + 1)) (memb S)) (bx (insTo ps s (i + 1)) (cntTo S s i)) := by
  have e : insTo ps s (i + 1) = insTo ps s i ++ [s.take (i + 1)] := by simp [insTo, ext, hm]
  obtain ⟨hp, hmem⟩ := insTo_inv hi.p s hv i (by omega)
  have hc := (validB_iff s).1 hv s[i] (List.getElem_mem _)
  have hq : (insTo ps s i)[n]? = some (s.take i) := by rw [hn]; exact getElem?_idxOf hmem
  have hps : s.take (i + 1) ∉ ps := fun h => hm ((mem_insTo i).2 (.inl h))
  have es : s.take (i + 1) = s.take i ++ [UInt8.ofNat (97 + (s[i].toNat - 97))] := by rw [ofNat_letter _ hc.1, take_succ_snoc s i hlt]
  rw [e]
  have hT' := hT.setN n (s[i].toNat - 97) (by omega) ((insTo ps s i).length : Int)
  rw [List.length_append, List.length_singleton]
  refine hT'.congr (fun n' l' hn' hl' => ?_) (fun n' hn' => ?_) (fun n' hn' => ?_)
  · rw [es] at hm ⊢
    exact (nxt_snoc hp hq (by omega) hm n' l' hn' hl').symm
  · exact (wx_snoc (memb_new hi hps) n' hn').symm
  · refine (bx_snoc ?_ n' hn').symm
    have : (s.take (i + 1)).isPrefixOf (s.take i) = false := not_prefix_of_length (by simp; omega)
    simp [cntTo, cnt_zero hi hps, this]

/-- .. and counted. -/
theorem ins_new {w w2 : World} {tb g k c i : Nat} {v0 v1 : Value} {F : Nat → Prop} {ps S : List (List UInt8)} {s : List UInt8} (hi : SInv ps S) (hv : validB s = true) (hlt : i < s.length) (hm : s.take (i + 1) ∉ insTo ps s i)
    (hT : T w2 tb v0 v1 (.slice (some ⟨g, 0, none⟩) k c) (insTo ps s (i + 1)).length (nxt (insTo ps s (i + 1))) (wx (insTo ps s (i + 1)) (memb S)) (bx (insTo ps s (i + 1)) (cntTo S s i)))
    (hM : Moved F (foot tb v0 v1 (.slice (some ⟨g, 0, none⟩) k c)) w w2) :
    bx (insTo ps s (i + 1)) (cntTo S s i) (insTo ps s i).length = 0 ∧ InsRel w tb F ps S s (i + 1) (insTo ps s i).length (w2.setCell ⟨g, (insTo ps s i).length, none⟩ (.int .i64 1)) := by
  have e : insTo ps s (i + 1) = insTo ps s i ++ [s.take (i + 1)] := by simp [insTo, ext, hm]
  obtain ⟨hp, hmem⟩ := insTo_inv hi.p s hv (i + 1) (by omega)
  have hidx : (insTo ps s (i + 1)).idxOf (s.take (i + 1)) = (insTo ps s i).length := hp.idx_eq (by rw [e]; simp)
  have hps : s.take (i + 1) ∉ ps := fun h => hm ((mem_insTo i).2 (.inl h))
  have h0 : bx (insTo ps s (i + 1)) (cntTo S s i) (insTo ps s i).length = 0 := by
    rw [bx_some (p := s.take (i + 1)) (by rw [e]; simp)]
    have : (s.take (i + 1)).isPrefixOf (s.take i) = false := not_prefix_of_length (by simp; omega)
    simp [cntTo, cnt_zero hi hps, this]
  refine ⟨h0, by omega, hidx.symm, _, ⟨v0, v1, _, rfl, ?_⟩, hM.store (.inr (.inr (.inr rfl)))⟩
  refine (hT.setB _ _).congr (fun _ _ _ _ => rfl) (fun _ _ => rfl) (fun n hn => ?_)
  have := bx_set hp hmem (fun q => cntTo_succ S s i hlt q) n hn
  rw [hidx, h0] at this
  exact this

/-- The word's mark is set. -/
theorem ins_end {w wr : World} {tb g k c n : Nat} {v0 v2 : Value} {F : Nat → Prop} {ps S : List (List UInt8)} {s : List UInt8} (hi : SInv ps S) (hv : validB s = true) (hn : n = (insTo ps s s.length).idxOf (s.take s.length))
    (hT : T wr tb v0 (.slice (some ⟨g, 0, none⟩) k c) v2 (insTo ps s s.length).length (nxt (insTo ps s s.length)) (wx (insTo ps s s.length) (memb S)) (bx (insTo ps s s.length) (cntTo S s s.length)))
    (hM : Moved F (foot tb v0 (.slice (some ⟨g, 0, none⟩) k c) v2) w wr) :
    ∃ F', Tr (wr.setCell ⟨g, n, none⟩ (.bool true)) tb F' (insTo ps s s.length) (memb (s :: S)) (cnt (s :: S)) ∧ Moved F F' w (wr.setCell ⟨g, n, none⟩ (.bool true)) := by
  obtain ⟨hp, hmem⟩ := insTo_inv hi.p s hv s.length (Nat.le_refl _)
  rw [List.take_length] at hmem hn
  refine ⟨_, ⟨v0, _, v2, rfl, ?_⟩, hM.store (.inr (.inr (.inl rfl)))⟩
  refine (hT.setW _ _).congr (fun _ _ _ _ => rfl) (fun m hm => ?_) (fun m hm => ?_)
  · have hq := List.getElem?_eq_getElem hm
    generalize (insTo ps s s.length)[m] = q at hq
    rw [wx_some hq, wx_some hq]
    have hidx := hp.idx_eq hq
    by_cases e : q = s
    · subst e; rw [if_pos (by omega)]; simp [memb]
    · rw [if_neg]
      · simp [memb, e]
      · intro e2
        apply e
        rw [e2, hn, getElem?_idxOf hmem] at hq
        exact (Option.some.inj hq).symm
  · have hq := List.getElem?_eq_getElem hm
    generalize (insTo ps s s.length)[m] = q at hq
    rw [bx_some hq, bx_some hq]
    simp only [cntTo, cnt, List.countP_cons, List.take_length]

end Go.Proofs.Ymwhat
