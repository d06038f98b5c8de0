import Derived.Test.YmwhatHeap
import Derived.Deep.QuietTactic
import Derived.BigQuiet
set_option linter.unusedVariables false
set_option linter.unusedSimpArgs false
namespace Go.Proofs.Ymwhat
open Go.RowKit

/-- The trie in memory: block tb holds the three slices; k nodes; next, word, below by the node's index. -/
structure T (w : World) (tb : Nat) (v0 v1 v2 : Value) (k : Nat) (N : Nat → Nat → Int) (W : Nat → Bool) (B : Nat → Int) : Prop where
  tc : w.heap[tb]? = some (.cells #[v0, v1, v2] 30 (0, 0))
  r0 : Row w 38 26 v0 k (fun i => .int .i64 (N (i / 26) (i % 26)))
  r1 : Row w 4 1 v1 k (fun i => .bool (W i))
  r2 : Row w 3 1 v2 k (fun i => .int .i64 (B i))
  n0 : v0.ownBlock ≠ some tb
  n1 : v1.ownBlock ≠ some tb
  n2 : v2.ownBlock ≠ some tb
  n01 : ∀ g, v0.ownBlock = some g → v1.ownBlock ≠ some g
  n02 : ∀ g, v0.ownBlock = some g → v2.ownBlock ≠ some g
  n12 : ∀ g, v1.ownBlock = some g → v2.ownBlock ≠ some g

/-- The blocks that the trie lies in. -/
def foot (tb : Nat) (v0 v1 v2 : Value) (b : Nat) : Prop := b = tb ∨ v0.ownBlock = some b ∨ v1.ownBlock = some b ∨ v2.ownBlock = some b

section
variable {w w' : World} {tb k : Nat} {v0 v1 v2 : Value} {N : Nat → Nat → Int} {W : Nat → Bool} {B : Nat → Int}

theorem T.c0 (h : T w tb v0 v1 v2 k N W B) : w.cell? ⟨tb, 0, none⟩ = some v0 := by simp [World.cell?, h.tc]
theorem T.c1 (h : T w tb v0 v1 v2 k N W B) : w.cell? ⟨tb, 1, none⟩ = some v1 := by simp [World.cell?, h.tc]
theorem T.c2 (h : T w tb v0 v1 v2 k N W B) : w.cell? ⟨tb, 2, none⟩ = some v2 := by simp [World.cell?, h.tc]
theorem T.fr (h : T w tb v0 v1 v2 k N W B) (i : Nat) : w.frozen? ⟨tb, i, none⟩ = false := by simp [World.frozen?, h.tc]
theorem T.lt (h : T w tb v0 v1 v2 k N W B) : tb < w.heap.size := (Array.getElem?_eq_some_iff.1 h.tc).1

theorem T.kept {F : Nat → Prop} (h : T w tb v0 v1 v2 k N W B) (hk : Kept F w w') (hF : ∀ b, foot tb v0 v1 v2 b → ¬ F b) : T w' tb v0 v1 v2 k N W B :=
  ⟨(hk.block tb h.lt (hF _ (.inl rfl))).trans h.tc, h.r0.kept hk (fun g hg => hF g (.inr (.inl hg))), h.r1.kept hk (fun g hg => hF g (.inr (.inr (.inl hg)))),
    h.r2.kept hk (fun g hg => hF g (.inr (.inr (.inr hg)))), h.n0, h.n1, h.n2, h.n01, h.n02, h.n12⟩

theorem T.drew (h : T w tb v0 v1 v2 k N W B) : T w.drew tb v0 v1 v2 k N W B := ⟨h.tc, h.r0, h.r1, h.r2, h.n0, h.n1, h.n2, h.n01, h.n02, h.n12⟩

theorem T.foot_lt (h : T w tb v0 v1 v2 k N W B) {b : Nat} (hb : foot tb v0 v1 v2 b) : b < w.heap.size := by
  rcases hb with rfl | hb | hb | hb
  · exact h.lt
  · exact h.r0.lt hb
  · exact h.r1.lt hb
  · exact h.r2.lt hb
end

/-- What 'child' looks up. -/
def chd (N : Nat → Nat → Int) (n c : Nat) : Int := if 97 ≤ c ∧ c ≤ 122 then N n (c - 97) else 0

set_option maxHeartbeats 400000 in
theorem child_yes (tb g k cap n : Nat) (c : Nat) (m : Int) (w : World) (h0 : w.cell? ⟨tb,0,none⟩ = some (.slice (some ⟨g,0,none⟩) k cap)) (hn : n < k) (hk : k ≤ 1000000000) (hc1 : 97 ≤ c) (hc2 : c ≤ 122)
    (hcell : w.cell? ⟨g, n*26 + (c-97), none⟩ = some (.int .i64 m)) :
    Calls Yatv.prog 57 #[.pointer (some ⟨tb,0,none⟩), .int .i64 n, .int .u8 c] w fun e w' => e = .returned (.tuple #[.int .i64 m, .bool (m != 0)]) ∧ w' = w := by
  go_enter Yatv.func57, Yatv.ntmps57
  go_wp2
  go_ret2
  exact ⟨rfl, rfl⟩

set_option maxHeartbeats 400000 in
theorem child_no (p : Value) (n : Int) (c : Nat) (w : World) (hc0 : c < 256) (hc1 : ¬ (97 ≤ c ∧ c ≤ 122)) :
    Calls Yatv.prog 57 #[p, .int .i64 n, .int .u8 c] w fun e w' => e = .returned (.tuple #[.int .i64 0, .bool false]) ∧ w' = w := by
  by_cases h : c < 97
  · go_enter Yatv.func57, Yatv.ntmps57
    go_wp2
    go_ret2
    exact ⟨rfl, rfl⟩
  · have h' : 122 < c := by omega
    go_enter Yatv.func57, Yatv.ntmps57
    go_wp2
    go_ret2
    exact ⟨rfl, rfl⟩

theorem child_any {w : World} {tb k : Nat} {v0 v1 v2 : Value} {N : Nat → Nat → Int} {W : Nat → Bool} {B : Nat → Int} (h : T w tb v0 v1 v2 k N W B) (n c : Nat) (hn : n < k) (hk : k ≤ 1000000000) (hc : c < 256) :
    Calls Yatv.prog 57 #[.pointer (some ⟨tb,0,none⟩), .int .i64 n, .int .u8 c] w fun e w' => e = .returned (.tuple #[.int .i64 (chd N n c), .bool (chd N n c != 0)]) ∧ w' = w := by
  unfold chd
  by_cases hl : 97 ≤ c ∧ c ≤ 122
  · simp only [if_pos hl]
    obtain ⟨g, cap, rfl, _, _⟩ := h.r0.pos (by omega)
    refine child_yes tb g k cap n c _ w h.c0 hn hk hl.1 hl.2 ?_
    have := h.r0.cell (i := n * 26 + (c - 97)) (by omega)
    rw [this, show (n * 26 + (c - 97)) / 26 = n by omega, show (n * 26 + (c - 97)) % 26 = c - 97 by omega]
  · simp only [if_neg hl]
    exact child_no _ _ c w hc hl

/-- The walk along the links. -/
def wlk (N : Nat → Nat → Int) : List UInt8 → Nat → Option Nat
  | [], n => some n
  | c :: r, n => if chd N n c.toNat = 0 then none else wlk N r (chd N n c.toNat).toNat

def fres (k : Nat) (o : Option Nat) : Value :=
  if k = 0 then .tuple #[.int .i64 0, .bool false] else match o with | some n => .tuple #[.int .i64 n, .bool true] | none => .tuple #[.int .i64 0, .bool false]

theorem fres_some {k : Nat} (hk : ¬ k = 0) (n : Nat) : fres k (some n) = .tuple #[.int .i64 n, .bool true] := by simp [fres, hk]
theorem fres_none {k : Nat} : fres k none = .tuple #[.int .i64 0, .bool false] := by simp [fres]

/-- Every link leads to a node. -/
def Closed (k : Nat) (N : Nat → Nat → Int) : Prop := ∀ n l, n < k → l < 26 → 0 ≤ N n l ∧ N n l < k

theorem Closed.chd {k : Nat} {N : Nat → Nat → Int} (h : Closed k N) {n c : Nat} (hn : n < k) : 0 ≤ chd N n c ∧ chd N n c < k := by
  unfold Ymwhat.chd
  split
  · exact h n (c - 97) hn (by omega)
  · omega

theorem wlk_lt {k : Nat} {N : Nat → Nat → Int} (h : Closed k N) : ∀ (p : List UInt8) (n m : Nat), n < k → wlk N p n = some m → m < k
  | [], n, m, hn, e => by simp [wlk] at e; omega
  | c :: r, n, m, hn, e => by
    simp only [wlk] at e
    split at e
    · simp at e
    · have := h.chd (c := c.toNat) hn
      exact wlk_lt h r _ m (by omega) e

theorem drop_cons (s : ByteArray) (i : Nat) (h : i < s.size) : s.data.toList.drop i = s[i] :: s.data.toList.drop (i + 1) := by
  have h' : i < s.data.toList.length := by simpa using h
  rw [List.drop_eq_getElem_cons h']
  rfl

set_option maxHeartbeats 800000 in
theorem find_pos (tb g0 c0 k : Nat) (v1 v2 : Value) (N : Nat → Nat → Int) (W : Nat → Bool) (B : Nat → Int) (s : ByteArray) (w : World)
    (h : T w tb (.slice (some ⟨g0, 0, none⟩) k c0) v1 v2 k N W B) (hk0 : 0 < k) (hk : k ≤ 1000000000) (hN : Closed k N) (hs : s.size ≤ 1000000000) :
    Calls Yatv.prog 55 #[.pointer (some ⟨tb,0,none⟩), .string s] w fun e w' => e = .returned (fres k (wlk N s.data.toList 0)) ∧ w' = w := by
  have hc := h.c0
  have Hk : Hid (¬ k = 0) := by show ¬ k = 0; omega
  have hkz : ((k : Int) == 0) = false := by simp; omega
  have Hh : Hid (T w tb (.slice (some ⟨g0, 0, none⟩) k c0) v1 v2 k N W B) := h
  have HN : Hid (Closed k N) := hN
  clear h hN
  go_enter Yatv.func55, Yatv.ntmps55
  go_wp2
  clear hc
  go_loopw [6, 7, 8, 9] (fun n i _ _ wr => wr = w ∧ ∃ (a b : Nat), n = .int .i64 a ∧ i = .int .i64 b ∧ a < k ∧ b ≤ s.size ∧ wlk N (s.data.toList.drop b) a = wlk N s.data.toList 0) (fun _ i _ _ _ => s.size - (intOf i).toNat)
  case atStart => exact ⟨rfl, 0, 0, rfl, rfl, hk0, Nat.zero_le _, rfl⟩
  case round =>
    obtain ⟨rfl, a, b, rfl, rfl, ha, hb, hr⟩ := hrel
    have HR : Hid (wlk N (s.data.toList.drop b) a = wlk N s.data.toList 0) := hr
    clear hr
    by_cases hlt : b < s.size
    · have hd := drop_cons s b hlt
      have HD : Hid (wlk N s.data.toList 0 = if chd N a s[b].toNat = 0 then none else wlk N (s.data.toList.drop (b + 1)) (chd N a s[b].toNat).toNat) := by
        show _ = _
        rw [← HR.out, hd, wlk]
      clear hd HR
      have hch := HN.out.chd (c := s[b].toNat) ha
      have h256 : s[b].toNat < 256 := s[b].toNat_lt
      by_cases hz : chd N a s[b].toNat = 0
      · have hz' : (chd N a s[b].toNat != 0) = false := by simp [hz]
        go_wp2_with (go_at_call 57; refine (child_any Hh.out a _ ha hk h256).mono ?_; rintro e w' ⟨rfl, rfl⟩)
        go_ret2
        rw [HD.out, if_pos hz, fres_none]
        exact ⟨rfl, rfl⟩
      · have hz' : (chd N a s[b].toNat != 0) = true := by simp [hz]
        obtain ⟨m, hm⟩ : ∃ m : Nat, chd N a s[b].toNat = m := ⟨_, (Int.toNat_of_nonneg hch.1).symm⟩
        have HM : Hid (chd N a s[b].toNat = m) := hm
        clear hm
        go_wp2_with (go_at_call 57; refine (child_any Hh.out a _ ha hk h256).mono ?_; rintro e w' ⟨rfl, rfl⟩)
        go_roundw
        case rel =>
          refine ⟨by trivial, m, b + 1, by rw [HM.out], by go_num, ?_, by omega, ?_⟩
          · have := hch.2; rw [HM.out] at this; omega
          · rw [HD.out, if_neg hz, HM.out]; rfl
        case measure => simp [intOf]; omega
    · go_wp2
      go_ret2
      have : s.data.toList.drop b = [] := List.drop_of_length_le (by simp; omega)
      rw [← HR.out, this, wlk, fres_some Hk.out]
      exact ⟨rfl, rfl⟩

set_option maxHeartbeats 400000 in
theorem find_nil (tb : Nat) (ao : Option Addr) (c0 : Nat) (s : ByteArray) (w : World) (hc : w.cell? ⟨tb, 0, none⟩ = some (.slice ao 0 c0)) :
    Calls Yatv.prog 55 #[.pointer (some ⟨tb,0,none⟩), .string s] w fun e w' => e = .returned (.tuple #[.int .i64 0, .bool false]) ∧ w' = w := by
  go_enter Yatv.func55, Yatv.ntmps55
  go_wp2
  go_ret2
  exact ⟨rfl, rfl⟩

theorem find_any {w : World} {tb k : Nat} {v0 v1 v2 : Value} {N : Nat → Nat → Int} {W : Nat → Bool} {B : Nat → Int} (h : T w tb v0 v1 v2 k N W B) (hk : k ≤ 1000000000) (hN : Closed k N) (s : ByteArray) (hs : s.size ≤ 1000000000) :
    Calls Yatv.prog 55 #[.pointer (some ⟨tb,0,none⟩), .string s] w fun e w' => e = .returned (fres k (wlk N s.data.toList 0)) ∧ w' = w := by
  by_cases hk0 : k = 0
  · subst hk0
    obtain ⟨ao, cap, rfl, _⟩ := h.r0.form
    exact find_nil tb ao cap s w h.c0
  · obtain ⟨g, cap, rfl, _⟩ := h.r0.pos (by omega)
    exact find_pos tb g cap k v1 v2 N W B s w h (by omega) hk hN hs

/-- What Has answers. -/
def hasB (k : Nat) (N : Nat → Nat → Int) (W : Nat → Bool) (p : List UInt8) : Bool :=
  if k = 0 then false else match wlk N p 0 with | some n => W n | none => false

set_option maxHeartbeats 400000 in
theorem has_any {w : World} {tb k : Nat} {v0 v1 v2 : Value} {N : Nat → Nat → Int} {W : Nat → Bool} {B : Nat → Int} (h : T w tb v0 v1 v2 k N W B) (hk : k ≤ 1000000000) (hN : Closed k N) (s : ByteArray) (hs : s.size ≤ 1000000000) :
    Calls Yatv.prog 19 #[.pointer (some ⟨tb,0,none⟩), .string s] w fun e w' => e = .returned (.bool (hasB k N W s.data.toList)) ∧ w' = w := by
  unfold hasB
  by_cases hk0 : k = 0
  · have hf : fres k (wlk N s.data.toList 0) = .tuple #[.int .i64 0, .bool false] := by simp [fres, hk0]
    rw [if_pos hk0]
    go_enter Yatv.func19, Yatv.ntmps19
    go_wp2_with (go_at_call 55; refine (find_any h hk hN s hs).mono ?_; rw [hf]; rintro e w' ⟨rfl, rfl⟩)
    go_ret
    exact ⟨rfl, rfl⟩
  · rw [if_neg hk0]
    cases hw : wlk N s.data.toList 0 with
    | none =>
      have hf : fres k (wlk N s.data.toList 0) = .tuple #[.int .i64 0, .bool false] := by simp [fres, hk0, hw]
      go_enter Yatv.func19, Yatv.ntmps19
      go_wp2_with (go_at_call 55; refine (find_any h hk hN s hs).mono ?_; rw [hf]; rintro e w' ⟨rfl, rfl⟩)
      go_ret
      exact ⟨rfl, rfl⟩
    | some n =>
      have hf : fres k (wlk N s.data.toList 0) = .tuple #[.int .i64 n, .bool true] := by simp [fres, hk0, hw]
      have hn := wlk_lt hN _ 0 n (by omega) hw
      obtain ⟨g, cap, rfl, _⟩ := h.r1.pos (by omega)
      have hc1 := h.c1
      have hcw := h.r1.cell (i := n) (by omega)
      clear hw
      go_enter Yatv.func19, Yatv.ntmps19
      go_wp2_with (go_at_call 55; refine (find_any h hk hN s hs).mono ?_; rw [hf]; rintro e w' ⟨rfl, rfl⟩)
      go_ret
      exact ⟨rfl, rfl⟩

end Go.Proofs.Ymwhat
