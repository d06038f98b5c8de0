import Derived.Test.YmwhatPaths
set_option linter.unusedVariables false
set_option linter.unusedSimpArgs false
namespace Go.Proofs.Ymwhat
open Go.RowKit

theorem validB_cons (c : UInt8) (l : List UInt8) : validB (c :: l) = (decide (97 ≤ c.toNat ∧ c.toNat ≤ 122) && validB l) := by
  simp [validB]

set_option maxHeartbeats 800000 in
theorem valid_any (s : ByteArray) (w : World) (hs : s.size ≤ 1000000000) :
    Calls Yatv.prog 53 #[.string s] w fun e w' => e = .returned (.bool (validB s.data.toList)) ∧ w' = w := by
  go_enter Yatv.func53, Yatv.ntmps53
  go_wp2
  go_loopw [3] (fun i wr => wr = w ∧ ∃ b : Nat, i = .int .i64 b ∧ b ≤ s.size ∧ validB (s.data.toList.drop b) = validB s.data.toList) (fun i _ => s.size - (intOf i).toNat)
  case atStart => exact ⟨rfl, 0, rfl, Nat.zero_le _, rfl⟩
  case round =>
    obtain ⟨rfl, b, rfl, hb, hr⟩ := hrel
    have HR := hid hr
    clear hr
    by_cases hlt : b < s.size
    · have hd := drop_cons s b hlt
      have HD : Hid (validB s.data.toList = (decide (97 ≤ s[b].toNat ∧ s[b].toNat ≤ 122) && validB (s.data.toList.drop (b + 1)))) := by
        show _ = _
        rw [← HR.out, hd, validB_cons]
      clear hd HR
      have h256 : s[b].toNat < 256 := s[b].toNat_lt
      by_cases h1 : s[b].toNat < 97
      · have h1' : (s[b].toNat : Int) < 97 := by omega
        go_wp2
        go_ret
        rw [HD.out]
        refine ⟨?_, rfl⟩
        simp
        omega
      · have h1' : ¬ (s[b].toNat : Int) < 97 := by omega
        by_cases h2 : 122 < s[b].toNat
        · have h2' : (122 : Int) < (s[b].toNat : Int) := by omega
          go_wp2
          go_ret
          rw [HD.out]
          refine ⟨?_, rfl⟩
          simp
          omega
        · have h2' : ¬ (122 : Int) < (s[b].toNat : Int) := by omega
          go_wp2
          go_roundw
          case rel =>
            refine ⟨by trivial, b + 1, by go_num, by omega, ?_⟩
            rw [HD.out]
            have : (97 ≤ s[b].toNat ∧ s[b].toNat ≤ 122) := by omega
            simp [this]
          case measure => simp [intOf]; omega
    · go_wp2
      go_ret
      have : s.data.toList.drop b = [] := List.drop_of_length_le (by simp; omega)
      rw [← HR.out, this]
      exact ⟨rfl, rfl⟩

theorem valid_val (s : ByteArray) (w : World) (hs : s.size ≤ 1000000000) (b : Bool) (hb : validB s.data.toList = b) :
    Calls Yatv.prog 53 #[.string s] w fun e w' => e = .returned (.bool b) ∧ w' = w := by
  subst hb; exact valid_any s w hs

section
variable {w : World} {tb k : Nat} {v0 v1 v2 : Value} {N : Nat → Nat → Int} {W : Nat → Bool} {B : Nat → Int}

theorem T.congr (h : T w tb v0 v1 v2 k N W B) {N' : Nat → Nat → Int} {W' : Nat → Bool} {B' : Nat → Int} (hN : ∀ n l, n < k → l < 26 → N n l = N' n l) (hW : ∀ n, n < k → W n = W' n) (hB : ∀ n, n < k → B n = B' n) : T w tb v0 v1 v2 k N' W' B' :=
  ⟨h.tc, h.r0.congr (fun i hi => by rw [hN _ _ (by omega) (by omega)]), h.r1.congr (fun i hi => by rw [hW _ (by omega)]), h.r2.congr (fun i hi => by rw [hB _ (by omega)]), h.n0, h.n1, h.n2, h.n01, h.n02, h.n12⟩

theorem T.setB {g m cap : Nat} (h : T w tb v0 v1 (.slice (some ⟨g, 0, none⟩) m cap) k N W B) (n : Nat) (x : Int) :
    T (w.setCell ⟨g, n, none⟩ (.int .i64 x)) tb v0 v1 (.slice (some ⟨g, 0, none⟩) m cap) k N W (fun j => if j = n then x else B j) :=
  ⟨(Below.heap_setCell _ _ _ _ (fun e => h.n2 (by rw [own_slice]; exact congrArg some e.symm))).trans h.tc, h.r0.setOther (p := ⟨g, n, none⟩) (fun e => h.n02 _ e rfl) _, h.r1.setOther (p := ⟨g, n, none⟩) (fun e => h.n12 _ e rfl) _,
    (h.r2.set n (.int .i64 x)).congr (fun i hi => by by_cases e : i = n <;> simp [e]), h.n0, h.n1, h.n2, h.n01, h.n02, h.n12⟩

theorem T.setW {g m cap : Nat} (h : T w tb v0 (.slice (some ⟨g, 0, none⟩) m cap) v2 k N W B) (n : Nat) (x : Bool) :
    T (w.setCell ⟨g, n, none⟩ (.bool x)) tb v0 (.slice (some ⟨g, 0, none⟩) m cap) v2 k N (fun j => if j = n then x else W j) B :=
  ⟨(Below.heap_setCell _ _ _ _ (fun e => h.n1 (by rw [own_slice]; exact congrArg some e.symm))).trans h.tc, h.r0.setOther (p := ⟨g, n, none⟩) (fun e => h.n01 _ e rfl) _,
    (h.r1.set n (.bool x)).congr (fun i hi => by by_cases e : i = n <;> simp [e]), h.r2.setOther (p := ⟨g, n, none⟩) (fun e => h.n12 _ rfl e) _, h.n0, h.n1, h.n2, h.n01, h.n02, h.n12⟩

theorem T.setN {g m cap : Nat} (h : T w tb (.slice (some ⟨g, 0, none⟩) m cap) v1 v2 k N W B) (n l : Nat) (hl : l < 26) (x : Int) :
    T (w.setCell ⟨g, n * 26 + l, none⟩ (.int .i64 x)) tb (.slice (some ⟨g, 0, none⟩) m cap) v1 v2 k (fun n' l' => if n' = n ∧ l' = l then x else N n' l') W B :=
  ⟨(Below.heap_setCell _ _ _ _ (fun e => h.n0 (by rw [own_slice]; exact congrArg some e.symm))).trans h.tc,
    (h.r0.set (n * 26 + l) (.int .i64 x)).congr (fun i hi => by
      by_cases e : i = n * 26 + l
      · have e1 : i / 26 = n ∧ i % 26 = l := by omega
        simp only [if_pos e, if_pos e1]
      · have e1 : ¬ (i / 26 = n ∧ i % 26 = l) := by omega
        simp only [if_neg e, if_neg e1]), h.r1.setOther (p := ⟨g, n * 26 + l, none⟩) (fun e => h.n01 _ rfl e) _, h.r2.setOther (p := ⟨g, n * 26 + l, none⟩) (fun e => h.n02 _ rfl e) _, h.n0, h.n1, h.n2, h.n01, h.n02, h.n12⟩

theorem T.moved {p : Addr} (h : T w tb v0 v1 v2 k N W B) (hp : foot tb v0 v1 v2 p.block) (u : Value) : Moved (foot tb v0 v1 v2) (foot tb v0 v1 v2) w (w.setCell p u) := (Moved.refl _ _).setCell hp u
end

/-- The trie in memory, its nodes by their paths. -/
def Tr (w : World) (tb : Nat) (F : Nat → Prop) (ps : List (List UInt8)) (f : List UInt8 → Bool) (g : List UInt8 → Nat) : Prop :=
  ∃ v0 v1 v2, F = foot tb v0 v1 v2 ∧ T w tb v0 v1 v2 ps.length (nxt ps) (wx ps f) (bx ps g)

theorem Tr.has {w : World} {tb : Nat} {F : Nat → Prop} {ps S : List (List UInt8)} {g : List UInt8 → Nat} (h : Tr w tb F ps (memb S) g) (hi : SInv ps S) (hk : ps.length ≤ 1000000000) (s : ByteArray) (hs : s.size ≤ 1000000000) (b : Bool) (hb : memb S s.data.toList = b) :
    Calls Yatv.prog 19 #[.pointer (some ⟨tb,0,none⟩), .string s] w fun e w' => e = .returned (.bool b) ∧ w' = w := by
  obtain ⟨v0, v1, v2, _, hT⟩ := h
  have := has_any hT hk hi.p.closed s hs
  rw [hi.has, hb] at this
  exact this

/-- The counts while the word s is put in: its first i letters are counted. -/
def cntTo (S : List (List UInt8)) (s : List UInt8) (i : Nat) (p : List UInt8) : Nat := cnt S p + if p.isPrefixOf (s.take i) then 1 else 0

theorem cnt_zero {ps S : List (List UInt8)} (hi : SInv ps S) {p : List UInt8} (hp : p ∉ ps) : cnt S p = 0 := by
  unfold cnt
  rw [List.countP_eq_zero]
  intro x hx hpx
  exact hp (hi.p.prefixes (List.isPrefixOf_iff_prefix.1 hpx) (hi.sub x hx))

theorem cnt_le (S : List (List UInt8)) (p : List UInt8) : cnt S p ≤ S.length := List.countP_le_length

theorem not_prefix_of_length {p q : List UInt8} (h : q.length < p.length) : p.isPrefixOf q = false := by
  cases e : p.isPrefixOf q
  · rfl
  · have := (List.isPrefixOf_iff_prefix.1 e).length_le
    omega

/-- One more letter is counted: only the node of the longer beginning turns. -/
theorem cntTo_succ (S : List (List UInt8)) (s : List UInt8) (i : Nat) (hi : i < s.length) (p : List UInt8) : cntTo S s (i + 1) p = if p = s.take (i + 1) then cntTo S s i p + 1 else cntTo S s i p := by
  unfold cntTo
  by_cases e : p = s.take (i + 1)
  · rw [if_pos e]
    have h1 : p.isPrefixOf (s.take (i + 1)) = true := by rw [e]; exact List.isPrefixOf_iff_prefix.2 (List.prefix_refl _)
    have h2 : p.isPrefixOf (s.take i) = false := not_prefix_of_length (by rw [e]; simp; omega)
    simp [h1, h2]
  · rw [if_neg e]
    have : p.isPrefixOf (s.take (i + 1)) = p.isPrefixOf (s.take i) := by
      rw [Bool.eq_iff_iff, List.isPrefixOf_iff_prefix, List.isPrefixOf_iff_prefix, take_succ_snoc s i hi, List.prefix_concat_iff, ← take_succ_snoc s i hi]
      simp [e]
    rw [this]

theorem cntTo_zero (S : List (List UInt8)) (s p : List UInt8) : cntTo S s 0 p = if p = [] then cnt S p + 1 else cnt S p := by
  unfold cntTo
  cases p <;> simp

theorem bx_set {ps : List (List UInt8)} (h : PInv ps) {f f' : List UInt8 → Nat} {p : List UInt8} (hp : p ∈ ps) (hf : ∀ q, f' q = if q = p then f q + 1 else f q) (n : Nat) (hn : n < ps.length) :
    (if n = ps.idxOf p then bx ps f (ps.idxOf p) + 1 else bx ps f n) = bx ps f' n := by
  have hq := List.getElem?_eq_getElem hn
  generalize ps[n] = q at hq
  rw [bx_some hq, bx_some hq, bx_some (getElem?_idxOf hp), hf]
  have := h.idx_eq hq
  by_cases e : q = p
  · subst e
    rw [if_pos this.symm, if_pos rfl]; rfl
  · rw [if_neg e, if_neg]
    intro e2
    apply e
    rw [e2, getElem?_idxOf hp] at hq
    exact (Option.some.inj hq).symm

end Go.Proofs.Ymwhat
