import Derived.Test.YmwhatGrow
set_option linter.unusedVariables false
set_option linter.unusedSimpArgs false
namespace Go.Proofs.Ymwhat
open Go.RowKit

/-- Every byte is a lower-case letter. -/
def validB (l : List UInt8) : Bool := l.all (fun c => 97 ≤ c.toNat && c.toNat ≤ 122)

theorem validB_iff (l : List UInt8) : validB l = true ↔ ∀ c ∈ l, 97 ≤ c.toNat ∧ c.toNat ≤ 122 := by
  simp [validB]

theorem validB_append (a b : List UInt8) : validB (a ++ b) = (validB a && validB b) := by simp [validB]

/-- The child of node n by letter l. -/
def nxt (ps : List (List UInt8)) (n l : Nat) : Int :=
  match ps[n]? with
  | none => 0
  | some p => if p ++ [UInt8.ofNat (97 + l)] ∈ ps then ((ps.idxOf (p ++ [UInt8.ofNat (97 + l)]) : Nat) : Int) else (0 : Int)
def wx (ps : List (List UInt8)) (f : List UInt8 → Bool) (n : Nat) : Bool := match ps[n]? with | none => false | some p => f p
def bx (ps : List (List UInt8)) (f : List UInt8 → Nat) (n : Nat) : Int := match ps[n]? with | none => 0 | some p => f p

theorem nxt_none {ps : List (List UInt8)} {n : Nat} (h : ps[n]? = none) (l : Nat) : nxt ps n l = 0 := by simp [nxt, h]
theorem nxt_some {ps : List (List UInt8)} {n : Nat} {p : List UInt8} (h : ps[n]? = some p) (l : Nat) : nxt ps n l = if p ++ [UInt8.ofNat (97 + l)] ∈ ps then ((ps.idxOf (p ++ [UInt8.ofNat (97 + l)]) : Nat) : Int) else (0 : Int) := by simp [nxt, h]
theorem wx_none {ps : List (List UInt8)} {f : List UInt8 → Bool} {n : Nat} (h : ps[n]? = none) : wx ps f n = false := by simp [wx, h]
theorem wx_some {ps : List (List UInt8)} {f : List UInt8 → Bool} {n : Nat} {p : List UInt8} (h : ps[n]? = some p) : wx ps f n = f p := by simp [wx, h]
theorem bx_none {ps : List (List UInt8)} {f : List UInt8 → Nat} {n : Nat} (h : ps[n]? = none) : bx ps f n = 0 := by simp [bx, h]
theorem bx_some {ps : List (List UInt8)} {f : List UInt8 → Nat} {n : Nat} {p : List UInt8} (h : ps[n]? = some p) : bx ps f n = f p := by simp [bx, h]

/-- The nodes by their paths: no path twice, the root first, every path's beginnings are there, letters alone. -/
structure PInv (ps : List (List UInt8)) : Prop where
  nodup : ps.Nodup
  root : ps ≠ [] → ps[0]? = some []
  pre : ∀ p c, p ++ [c] ∈ ps → p ∈ ps
  letters : ∀ p ∈ ps, validB p = true

theorem PInv.nil : PInv [] := ⟨List.nodup_nil, fun h => absurd rfl h, fun _ _ h => by simp at h, fun _ h => by simp at h⟩

theorem PInv.pre_append {ps : List (List UInt8)} (h : PInv ps) (p : List UInt8) : ∀ (n : Nat) (r : List UInt8), r.length = n → p ++ r ∈ ps → p ∈ ps
  | 0, r, hn, hm => by
    have : r = [] := List.eq_nil_of_length_eq_zero hn
    subst this; simpa using hm
  | n + 1, r, hn, hm => by
    rcases List.eq_nil_or_concat r with rfl | ⟨r', c, rfl⟩
    · simp at hn
    · rw [List.concat_eq_append] at hm hn
      rw [← List.append_assoc] at hm
      exact PInv.pre_append h p n r' (by simpa using hn) (h.pre _ c hm)

theorem PInv.prefixes {ps : List (List UInt8)} (h : PInv ps) {p q : List UInt8} (hpq : p <+: q) (hq : q ∈ ps) : p ∈ ps := by
  obtain ⟨r, rfl⟩ := hpq
  exact h.pre_append p r.length r rfl hq

theorem PInv.nil_mem {ps : List (List UInt8)} (h : PInv ps) (hne : ps ≠ []) : [] ∈ ps := List.mem_of_getElem? (h.root hne)

theorem getElem?_idxOf {ps : List (List UInt8)} {p : List UInt8} (h : p ∈ ps) : ps[ps.idxOf p]? = some p := by
  have hl := List.idxOf_lt_length_iff.2 h
  rw [List.getElem?_eq_getElem hl, List.getElem_idxOf]

theorem PInv.idx_eq {ps : List (List UInt8)} (h : PInv ps) {n : Nat} {p : List UInt8} (hn : ps[n]? = some p) : ps.idxOf p = n := by
  obtain ⟨hl, rfl⟩ := List.getElem?_eq_some_iff.1 hn
  exact h.nodup.idxOf_getElem n hl

theorem PInv.idx_pos {ps : List (List UInt8)} (h : PInv ps) {p : List UInt8} (hp : p ∈ ps) (hne : p ≠ []) : 0 < ps.idxOf p := by
  rcases Nat.eq_zero_or_pos (ps.idxOf p) with h0 | h0
  · have := getElem?_idxOf hp
    rw [h0, h.root (fun e => by simp [e] at hp)] at this
    exact absurd (Option.some.inj this).symm hne
  · exact h0

theorem ofNat_letter (c : UInt8) (h : 97 ≤ c.toNat) : UInt8.ofNat (97 + (c.toNat - 97)) = c := by
  rw [show 97 + (c.toNat - 97) = c.toNat by omega]
  simp

theorem PInv.chd {ps : List (List UInt8)} (h : PInv ps) {n : Nat} {p : List UInt8} (hn : ps[n]? = some p) (c : UInt8) : chd (nxt ps) n c.toNat = if p ++ [c] ∈ ps then ((ps.idxOf (p ++ [c]) : Nat) : Int) else (0 : Int) := by
  unfold Ymwhat.chd
  by_cases hc : 97 ≤ c.toNat ∧ c.toNat ≤ 122
  · rw [if_pos hc, nxt_some hn, ofNat_letter c hc.1]
  · rw [if_neg hc, if_neg]
    intro hm
    have := (validB_iff _).1 (h.letters _ hm) c (by simp)
    exact hc this

theorem PInv.closed {ps : List (List UInt8)} (h : PInv ps) : Closed ps.length (nxt ps) := by
  intro n l hn hl
  rw [nxt_some (List.getElem?_eq_getElem hn)]
  split
  · rename_i hm
    have := List.idxOf_lt_length_iff.2 hm
    omega
  · omega

theorem PInv.wlk {ps : List (List UInt8)} (h : PInv ps) : ∀ (r p : List UInt8) (n : Nat), ps[n]? = some p → wlk (nxt ps) r n = if p ++ r ∈ ps then some (ps.idxOf (p ++ r)) else none
  | [], p, n, hn => by
    simp only [Ymwhat.wlk, List.append_nil]
    rw [if_pos (List.mem_of_getElem? hn), h.idx_eq hn]
  | c :: r, p, n, hn => by
    simp only [Ymwhat.wlk]
    rw [h.chd hn c]
    have e : p ++ c :: r = (p ++ [c]) ++ r := by simp
    by_cases hm : p ++ [c] ∈ ps
    · rw [if_pos hm]
      have hp := h.idx_pos hm (by simp)
      rw [if_neg (by omega), Int.toNat_natCast, e]
      exact PInv.wlk h r (p ++ [c]) _ (getElem?_idxOf hm)
    · rw [if_neg hm, if_pos rfl, if_neg]
      intro hm'
      rw [e] at hm'
      exact hm (h.prefixes (List.prefix_append _ _) hm')

theorem PInv.wlk0 {ps : List (List UInt8)} (h : PInv ps) (hne : ps ≠ []) (r : List UInt8) : Ymwhat.wlk (nxt ps) r 0 = if r ∈ ps then some (ps.idxOf r) else none := by
  have := h.wlk r [] 0 (h.root hne)
  simpa using this

/-- What Has answers. -/
theorem PInv.has {ps : List (List UInt8)} (h : PInv ps) (f : List UInt8 → Bool) (hf : ∀ p, f p = true → p ∈ ps) (r : List UInt8) : hasB ps.length (nxt ps) (wx ps f) r = f r := by
  unfold hasB
  by_cases hne : ps = []
  · subst hne
    simp
    cases hr : f r
    · rfl
    · exact absurd (hf r hr) (by simp)
  · have hl : ¬ ps.length = 0 := fun e => hne (List.eq_nil_of_length_eq_zero e)
    rw [if_neg hl, h.wlk0 hne]
    by_cases hr : r ∈ ps
    · rw [if_pos hr]
      exact wx_some (getElem?_idxOf hr)
    · rw [if_neg hr]
      cases hfr : f r
      · rfl
      · exact absurd (hf r hfr) hr

def memb (S : List (List UInt8)) (p : List UInt8) : Bool := decide (p ∈ S)
def cnt (S : List (List UInt8)) (p : List UInt8) : Nat := S.countP (fun x => p.isPrefixOf x)

structure SInv (ps S : List (List UInt8)) : Prop where
  p : PInv ps
  nodup : S.Nodup
  sub : ∀ x ∈ S, x ∈ ps

theorem SInv.nil : SInv [] [] := ⟨PInv.nil, List.nodup_nil, fun _ h => by simp at h⟩

theorem SInv.has {ps S : List (List UInt8)} (h : SInv ps S) (r : List UInt8) : hasB ps.length (nxt ps) (wx ps (memb S)) r = memb S r :=
  h.p.has _ (fun p hp => h.sub p (by simpa [memb] using hp)) r

/-- One path more, if it is not there. -/
def ext (ps : List (List UInt8)) (p : List UInt8) : List (List UInt8) := if p ∈ ps then ps else ps ++ [p]

/-- The nodes when the word's first i letters have been put in. -/
def insTo (ps : List (List UInt8)) (s : List UInt8) : Nat → List (List UInt8)
  | 0 => ext ps []
  | i + 1 => ext (insTo ps s i) (s.take (i + 1))

theorem mem_ext {ps : List (List UInt8)} {p q : List UInt8} : q ∈ ext ps p ↔ q ∈ ps ∨ q = p := by
  unfold ext
  split
  · rename_i h
    constructor
    · exact .inl
    · rintro (h' | rfl)
      · exact h'
      · exact h
  · simp

theorem ext_self (ps : List (List UInt8)) (p : List UInt8) : p ∈ ext ps p := mem_ext.2 (.inr rfl)

theorem PInv.ext_root {ps : List (List UInt8)} (h : PInv ps) : PInv (ext ps []) := by
  by_cases hne : ps = []
  · subst hne
    refine ⟨by simp [ext], by simp [ext], fun p c hm => ?_, fun p hm => ?_⟩
    · simp [ext] at hm
    · simp [ext] at hm; subst hm; rfl
  · have : ext ps [] = ps := by simp [ext, h.nil_mem hne]
    rw [this]; exact h

theorem PInv.ext_child {ps : List (List UInt8)} (h : PInv ps) {p : List UInt8} {c : UInt8} (hp : p ∈ ps) (hc : 97 ≤ c.toNat ∧ c.toNat ≤ 122) : PInv (ext ps (p ++ [c])) := by
  by_cases hm : p ++ [c] ∈ ps
  · simp only [ext, if_pos hm]; exact h
  · simp only [ext, if_neg hm]
    refine ⟨?_, fun _ => ?_, fun q d hq => ?_, fun q hq => ?_⟩
    · rw [List.nodup_append]
      exact ⟨h.nodup, by simp, fun a ha b hb => by simp at hb; subst hb; exact fun e => hm (e ▸ ha)⟩
    · rw [List.getElem?_append_left (List.length_pos_of_mem hp)]
      exact h.root (fun e => by simp [e] at hp)
    · rw [List.mem_append] at hq ⊢
      rcases hq with hq | hq
      · exact .inl (h.pre q d hq)
      · simp at hq
        have := List.append_inj' (show q ++ [d] = p ++ [c] by simpa using hq) rfl
        rw [this.1]
        exact .inl hp
    · rw [List.mem_append] at hq
      rcases hq with hq | hq
      · exact h.letters q hq
      · simp at hq; subst hq
        rw [validB_append, h.letters p hp]
        simp [validB, hc]

theorem take_succ_snoc (s : List UInt8) (i : Nat) (hi : i < s.length) : s.take (i + 1) = s.take i ++ [s[i]] := List.take_succ_eq_append_getElem hi

theorem insTo_inv {ps : List (List UInt8)} (h : PInv ps) (s : List UInt8) (hs : validB s = true) : ∀ i, i ≤ s.length → PInv (insTo ps s i) ∧ s.take i ∈ insTo ps s i
  | 0, _ => ⟨h.ext_root, by simpa [insTo] using ext_self ps []⟩
  | i + 1, hi => by
    obtain ⟨h1, h2⟩ := insTo_inv h s hs i (by omega)
    simp only [insTo]
    refine ⟨?_, ext_self _ _⟩
    rw [take_succ_snoc s i (by omega)]
    exact h1.ext_child h2 ((validB_iff s).1 hs _ (List.getElem_mem _))

theorem mem_insTo {ps : List (List UInt8)} {s q : List UInt8} : ∀ i, q ∈ insTo ps s i ↔ q ∈ ps ∨ ∃ j, j ≤ i ∧ q = s.take j
  | 0 => by
    simp only [insTo, mem_ext]
    constructor
    · rintro (h | h)
      · exact .inl h
      · exact .inr ⟨0, Nat.le_refl _, by simpa using h⟩
    · rintro (h | ⟨j, hj, h⟩)
      · exact .inl h
      · obtain rfl : j = 0 := by omega
        exact .inr (by simpa using h)
  | i + 1 => by
    simp only [insTo, mem_ext, mem_insTo i]
    constructor
    · rintro ((h | ⟨j, hj, h⟩) | h)
      · exact .inl h
      · exact .inr ⟨j, by omega, h⟩
      · exact .inr ⟨i + 1, Nat.le_refl _, h⟩
    · rintro (h | ⟨j, hj, h⟩)
      · exact .inl (.inl h)
      · by_cases e : j = i + 1
        · subst e; exact .inr h
        · exact .inl (.inr ⟨j, by omega, h⟩)

theorem length_ext (ps : List (List UInt8)) (p : List UInt8) : (ext ps p).length ≤ ps.length + 1 := by unfold ext; split <;> simp
theorem length_insTo (ps : List (List UInt8)) (s : List UInt8) : ∀ i, (insTo ps s i).length ≤ ps.length + (i + 1)
  | 0 => length_ext _ _
  | i + 1 => by have := length_insTo ps s i; have := length_ext (insTo ps s i) (s.take (i + 1)); simp only [insTo]; omega

/-- The links behind a new node. -/
theorem nxt_snoc {ps : List (List UInt8)} (h : PInv ps) {n : Nat} {p : List UInt8} (hn : ps[n]? = some p) {l : Nat} (hl : l < 26) (hm : p ++ [UInt8.ofNat (97 + l)] ∉ ps) (n' l' : Nat) (hn' : n' < ps.length + 1) (hl' : l' < 26) :
    nxt (ps ++ [p ++ [UInt8.ofNat (97 + l)]]) n' l' = if n' = n ∧ l' = l then (ps.length : Int) else nxt ps n' l' := by
  by_cases hlast : n' = ps.length
  · subst hlast
    have hnn : ps.length ≠ n := fun e => by
      obtain ⟨hlt, _⟩ := List.getElem?_eq_some_iff.1 hn
      omega
    rw [if_neg (fun e => hnn e.1), nxt_none (ps := ps) (by simp), nxt_some (p := p ++ [UInt8.ofNat (97 + l)]) (by simp), if_neg]
    intro hc
    rw [List.mem_append] at hc
    rcases hc with hc | hc
    · exact hm (h.pre _ _ hc)
    · have := congrArg List.length (List.mem_singleton.1 hc)
      simp at this
  · have hlt : n' < ps.length := by omega
    have hq := List.getElem?_eq_getElem hlt
    generalize ps[n'] = q at hq
    rw [nxt_some (p := q) (by rw [List.getElem?_append_left hlt]; exact hq), nxt_some hq]
    by_cases hb : n' = n ∧ l' = l
    · obtain ⟨rfl, rfl⟩ := hb
      rw [hn] at hq
      obtain rfl : p = q := by simpa using hq
      rw [if_pos (by simp), if_pos ⟨rfl, rfl⟩, List.idxOf_append, if_neg hm]
      simp
    · rw [if_neg hb]
      have hne : q ++ [UInt8.ofNat (97 + l')] ≠ p ++ [UInt8.ofNat (97 + l)] := by
        intro e
        have e2 := List.append_inj' e rfl
        apply hb
        refine ⟨?_, ?_⟩
        · have a := h.idx_eq hq
          have b := h.idx_eq hn
          rw [e2.1] at a
          omega
        · have e3 : UInt8.ofNat (97 + l') = UInt8.ofNat (97 + l) := by simpa using e2.2
          have e4 := congrArg UInt8.toNat e3
          simp at e4
          omega
      by_cases hq2 : q ++ [UInt8.ofNat (97 + l')] ∈ ps
      · rw [if_pos hq2, if_pos (List.mem_append_left _ hq2), List.idxOf_append, if_pos hq2]
      · rw [if_neg hq2, if_neg]
        intro hc
        rw [List.mem_append] at hc
        rcases hc with hc | hc
        · exact hq2 hc
        · exact hne (List.mem_singleton.1 hc)

theorem wx_snoc {ps : List (List UInt8)} {f : List UInt8 → Bool} {p : List UInt8} (hf : f p = false) (n : Nat) (hn : n < ps.length + 1) : wx (ps ++ [p]) f n = wx ps f n := by
  by_cases hlt : n < ps.length
  · simp [wx, List.getElem?_append_left hlt]
  · obtain rfl : n = ps.length := by omega
    rw [wx_some (p := p) (by simp), wx_none (by simp), hf]

theorem bx_snoc {ps : List (List UInt8)} {f : List UInt8 → Nat} {p : List UInt8} (hf : f p = 0) (n : Nat) (hn : n < ps.length + 1) : bx (ps ++ [p]) f n = bx ps f n := by
  by_cases hlt : n < ps.length
  · simp [bx, List.getElem?_append_left hlt]
  · obtain rfl : n = ps.length := by omega
    rw [bx_some (p := p) (by simp), bx_none (by simp), hf]; rfl

end Go.Proofs.Ymwhat
