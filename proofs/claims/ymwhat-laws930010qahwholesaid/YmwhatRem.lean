import Derived.Test.YmwhatInsW
import Derived.Deep.Draws
set_option linter.unusedVariables false
set_option linter.unusedSimpArgs false
namespace Go.Proofs.Ymwhat
open Go.RowKit

set_option maxHeartbeats 400000 in
theorem remove_no {w : World} {tb : Nat} {F : Nat → Prop} {ps S : List (List UInt8)} {g : List UInt8 → Nat} (h : Tr w tb F ps (memb S) g) (hi : SInv ps S) (hk : ps.length ≤ 1000000000) (s : ByteArray) (hs : s.size ≤ 1000000000) (hb : memb S s.data.toList = false) :
    Calls Yatv.prog 12 #[.pointer (some ⟨tb,0,none⟩), .string s] w fun e w' => e = .returned (.bool false) ∧ w' = w := by
  have HB := hid hb
  have HT := hid h
  have HI := hid hi
  clear hb h hi
  go_enter Yatv.func12, Yatv.ntmps12
  go_wp2_with (go_at_call 19; refine (HT.out.has HI.out hk s hs false HB.out).mono ?_; rintro e w' ⟨rfl, rfl⟩)
  go_ret
  exact ⟨rfl, rfl⟩

/-- The counts while the word s is taken out: its first i letters are counted. -/
def cntRem (S : List (List UInt8)) (s : List UInt8) (i : Nat) (p : List UInt8) : Nat := cnt S p - if p.isPrefixOf (s.take i) then 1 else 0

theorem cnt_pos {S : List (List UInt8)} {s p : List UInt8} (hs : s ∈ S) (hp : p <+: s) : 0 < cnt S p := by
  unfold cnt
  rw [List.countP_pos_iff]
  exact ⟨s, hs, List.isPrefixOf_iff_prefix.2 hp⟩

theorem cntRem_succ (S : List (List UInt8)) (s : List UInt8) (hs : s ∈ S) (i : Nat) (hi : i < s.length) (p : List UInt8) : (cntRem S s (i + 1) p : Int) = if p = s.take (i + 1) then (cntRem S s i p : Int) - 1 else cntRem S s i p := by
  unfold cntRem
  by_cases e : p = s.take (i + 1)
  · rw [if_pos e]
    have h1 : p.isPrefixOf (s.take (i + 1)) = true := by rw [e]; exact List.isPrefixOf_iff_prefix.2 (List.prefix_refl _)
    have h2 : p.isPrefixOf (s.take i) = false := not_prefix_of_length (by rw [e]; simp; omega)
    have h3 := cnt_pos hs (p := p) (e ▸ List.take_prefix _ _)
    simp [h1, h2]
    omega
  · rw [if_neg e]
    have : p.isPrefixOf (s.take (i + 1)) = p.isPrefixOf (s.take i) := by
      rw [Bool.eq_iff_iff, List.isPrefixOf_iff_prefix, List.isPrefixOf_iff_prefix, take_succ_snoc s i hi, List.prefix_concat_iff, ← take_succ_snoc s i hi]
      simp [e]
    rw [this]

theorem cntRem_zero (S : List (List UInt8)) (s : List UInt8) (hs : s ∈ S) (p : List UInt8) : (cntRem S s 0 p : Int) = if p = [] then (cnt S p : Int) - 1 else cnt S p := by
  unfold cntRem
  cases p with
  | nil => have := cnt_pos hs (List.nil_prefix (l := s)); simp; omega
  | cons c r => simp

theorem bx_setm {ps : List (List UInt8)} (h : PInv ps) {f f' : List UInt8 → Nat} {p : List UInt8} (hp : p ∈ ps) (hf : ∀ q, (f' q : Int) = if q = p then (f q : Int) - 1 else f q) (n : Nat) (hn : n < ps.length) :
    (if n = ps.idxOf p then bx ps f (ps.idxOf p) - 1 else bx ps f n) = bx ps f' n := by
  have hq := List.getElem?_eq_getElem hn
  generalize ps[n] = q at hq
  rw [bx_some hq, bx_some hq, bx_some (getElem?_idxOf hp), hf]
  have := h.idx_eq hq
  by_cases e : q = p
  · subst e
    rw [if_pos this.symm, if_pos rfl]
  · rw [if_neg e, if_neg]
    intro e2
    apply e
    rw [e2, getElem?_idxOf hp] at hq
    exact (Option.some.inj hq).symm

/-- What holds at the head of Remove's loop. -/
def RemRel (w : World) (tb : Nat) (F : Nat → Prop) (ps S : List (List UInt8)) (s : List UInt8) (i n : Nat) (wr : World) : Prop :=
  i ≤ s.length ∧ n = ps.idxOf (s.take i) ∧ Tr wr tb F ps (memb S) (cntRem S s i) ∧ Moved F F w wr

theorem rem_start {w : World} {tb g k c : Nat} {v0 v1 : Value} {F : Nat → Prop} {ps S : List (List UInt8)} (s : List UInt8) (hi : SInv ps S) (hs : s ∈ S) (hF : F = foot tb v0 v1 (.slice (some ⟨g, 0, none⟩) k c)) (hT : T w tb v0 v1 (.slice (some ⟨g, 0, none⟩) k c) ps.length (nxt ps) (wx ps (memb S)) (bx ps (cnt S))) :
    RemRel w tb F ps S s 0 0 (w.setCell ⟨g, 0, none⟩ (.int .i64 (bx ps (cnt S) 0 - 1))) := by
  have hne : ps ≠ [] := fun e => by have := hi.sub s hs; simp [e] at this
  have h0 : ps.idxOf [] = 0 := hi.p.idx_eq (hi.p.root hne)
  refine ⟨Nat.zero_le _, by simp [h0], ⟨v0, v1, _, hF, ?_⟩, (Moved.refl _ _).store (hF ▸ .inr (.inr (.inr rfl)))⟩
  refine (hT.setB 0 _).congr (fun _ _ _ _ => rfl) (fun _ _ => rfl) (fun n hn => ?_)
  have := bx_setm hi.p (f := cnt S) (f' := cntRem S s 0) (hi.p.nil_mem hne) (fun q => cntRem_zero S s hs q) n hn
  rw [h0] at this
  exact this

theorem rem_step {w wr : World} {tb g k c i : Nat} {v0 v1 : Value} {F : Nat → Prop} {ps S : List (List UInt8)} {s : List UInt8} (hi : SInv ps S) (hs : s ∈ S) (hlt : i < s.length) (hF : F = foot tb v0 v1 (.slice (some ⟨g, 0, none⟩) k c))
    (hT : T wr tb v0 v1 (.slice (some ⟨g, 0, none⟩) k c) ps.length (nxt ps) (wx ps (memb S)) (bx ps (cntRem S s i))) (hM : Moved F F w wr) :
    RemRel w tb F ps S s (i + 1) (ps.idxOf (s.take (i + 1))) (wr.setCell ⟨g, ps.idxOf (s.take (i + 1)), none⟩ (.int .i64 (bx ps (cntRem S s i) (ps.idxOf (s.take (i + 1))) - 1))) := by
  have hm : s.take (i + 1) ∈ ps := hi.p.prefixes (List.take_prefix _ _) (hi.sub s hs)
  refine ⟨by omega, rfl, ⟨v0, v1, _, hF, ?_⟩, hM.store (hF ▸ .inr (.inr (.inr rfl)))⟩
  exact (hT.setB _ _).congr (fun _ _ _ _ => rfl) (fun _ _ => rfl) (fun n hn => bx_setm hi.p hm (fun q => cntRem_succ S s hs i hlt q) n hn)

theorem cnt_erase {S : List (List UInt8)} {s : List UInt8} (hs : s ∈ S) (p : List UInt8) : cnt S p = cnt (S.erase s) p + if p.isPrefixOf s then 1 else 0 := by
  unfold cnt
  rw [(List.perm_cons_erase hs).countP_eq, List.countP_cons]

theorem rem_end {w wr : World} {tb g k c n : Nat} {v0 v2 : Value} {F : Nat → Prop} {ps S : List (List UInt8)} {s : List UInt8} (hi : SInv ps S) (hs : s ∈ S) (hn : n = ps.idxOf (s.take s.length)) (hF : F = foot tb v0 (.slice (some ⟨g, 0, none⟩) k c) v2)
    (hT : T wr tb v0 (.slice (some ⟨g, 0, none⟩) k c) v2 ps.length (nxt ps) (wx ps (memb S)) (bx ps (cntRem S s s.length))) (hM : Moved F F w wr) :
    Tr (wr.setCell ⟨g, n, none⟩ (.bool false)) tb F ps (memb (S.erase s)) (cnt (S.erase s)) ∧ Moved F F w (wr.setCell ⟨g, n, none⟩ (.bool false)) := by
  have hmem := hi.sub s hs
  rw [List.take_length] at hn
  refine ⟨⟨v0, _, v2, hF, ?_⟩, hM.store (hF ▸ .inr (.inr (.inl rfl)))⟩
  refine (hT.setW _ _).congr (fun _ _ _ _ => rfl) (fun m hm => ?_) (fun m hm => ?_)
  · have hq := List.getElem?_eq_getElem hm
    generalize ps[m] = q at hq
    rw [wx_some hq, wx_some hq]
    have hidx := hi.p.idx_eq hq
    simp only [memb, hi.nodup.mem_erase_iff]
    by_cases e : q = s
    · subst e; rw [if_pos (by omega)]; simp
    · rw [if_neg]
      · simp [e]
      · intro e2
        apply e
        rw [e2, hn, getElem?_idxOf hmem] at hq
        exact (Option.some.inj hq).symm
  · have hq := List.getElem?_eq_getElem hm
    generalize ps[m] = q at hq
    rw [bx_some hq, bx_some hq]
    have := cnt_erase hs q
    simp only [cntRem, List.take_length]
    split at this <;> simp_all

end Go.Proofs.Ymwhat
