import Derived.Test.YmwhatMr
set_option linter.unusedVariables false
set_option linter.unusedSimpArgs false
namespace Go.Proofs.Ymwhat
open Go.RowKit

/-! ### Trie and model side by side -/

/-- The trie holds (ps, S), the model (qs, R); they lie apart, in memory made since w0. -/
structure Two (F G : Nat → Prop) (w0 wr : World) (tb mb : Nat) (ps S qs R : List (List UInt8)) : Prop where
  tr : Tr wr tb F ps (memb S) (cnt S)
  mo : Mo wr mb G qs (memb R) (cnt R)
  it : SInv ps S
  im : SInv qs R
  apart : ∀ b, F b → ¬ G b
  below : Below w0.heap.size w0 wr
  newF : ∀ b, F b → w0.heap.size ≤ b
  newG : ∀ b, G b → w0.heap.size ≤ b

def St2 (w0 wr : World) (tb mb : Nat) (ps S qs R : List (List UInt8)) : Prop := ∃ F G, Two F G w0 wr tb mb ps S qs R

theorem Mo.lt {w : World} {mb : Nat} {F : Nat → Prop} {ps : List (List UInt8)} {f : List UInt8 → Bool} {g : List UInt8 → Nat} (h : Mo w mb F ps f g) {b : Nat} (hb : F b) : b < w.heap.size := by
  obtain ⟨v0, v1, v2, rfl, hT⟩ := h
  exact hT.foot_lt hb

theorem Mo.kept {w w' : World} {mb : Nat} {F G : Nat → Prop} {ps : List (List UInt8)} {f : List UInt8 → Bool} {g : List UInt8 → Nat} (h : Mo w mb F ps f g) (hk : Kept G w w') (hd : ∀ b, F b → ¬ G b) : Mo w' mb F ps f g := by
  obtain ⟨v0, v1, v2, rfl, hT⟩ := h
  exact ⟨v0, v1, v2, rfl, hT.kept hk hd⟩

section
variable {F F' G G' : Nat → Prop} {w0 wr w' : World} {tb mb : Nat} {ps S qs R ps' S' qs' R' : List (List UInt8)}

theorem Two.tmoved (h : Two F G w0 wr tb mb ps S qs R) (hT : Tr w' tb F' ps' (memb S') (cnt S')) (hi : SInv ps' S') (hM : Moved F F' wr w') : Two F' G w0 w' tb mb ps' S' qs R :=
  ⟨hT, h.mo.kept hM.kept (fun b hb e => h.apart b e hb), hi, h.im, fun b hF hG => by
      rcases hM.sub b hF with e | e
      · exact h.apart b e hG
      · have := h.mo.lt hG; omega,
    h.below.trans (hM.kept.below h.below.size (fun x hx hF => by have := h.newF x hF; omega)), fun b hb => by
      rcases hM.sub b hb with e | e
      · exact h.newF b e
      · have := h.below.size; omega, h.newG⟩

theorem Two.mmoved (h : Two F G w0 wr tb mb ps S qs R) (hT : Mo w' mb G' qs' (memb R') (cnt R')) (hi : SInv qs' R') (hM : Moved G G' wr w') : Two F G' w0 w' tb mb ps S qs' R' :=
  ⟨h.tr.kept hM.kept (fun b hb e => h.apart b hb e), hT, h.it, hi, fun b hF hG => by
      rcases hM.sub b hG with e | e
      · exact h.apart b hF e
      · have := h.tr.lt hF; omega,
    h.below.trans (hM.kept.below h.below.size (fun x hx hF => by have := h.newG x hF; omega)), h.newF, fun b hb => by
      rcases hM.sub b hb with e | e
      · exact h.newG b e
      · have := h.below.size; omega⟩

theorem St2.tinsert (h : St2 w0 wr tb mb ps S qs R) (s : ByteArray) (hk : ps.length + s.size + 1 ≤ 1000000000) (hSl : S.length + 1 ≤ 1000000000) (hv : validB s.data.toList = true) :
    Calls Yatv.prog 14 #[.pointer (some ⟨tb,0,none⟩), .string s] wr fun e w' => e = .returned (.int .i64 (if s.data.toList ∈ S then 1 else 0)) ∧ St2 w0 w' tb mb (insP ps S s.data.toList) (insS S s.data.toList) qs R := by
  obtain ⟨F, G, h⟩ := h
  exact (h.tr.insert h.it s hk hSl hv).mono fun e w' ⟨h1, F', h2, h3⟩ => ⟨h1, F', G, h.tmoved h2 (h.it.ins hv) h3⟩

theorem St2.minsert (h : St2 w0 wr tb mb ps S qs R) (s : ByteArray) (hk : qs.length + s.size + 1 ≤ 1000000) (hSl : R.length + 1 ≤ 1000000) (hv : validB s.data.toList = true) :
    Calls Yatv.prog 50 #[.pointer (some ⟨mb,0,none⟩), .string s] wr fun e w' => e = .returned (.int .i64 (if s.data.toList ∈ R then 1 else 0)) ∧ St2 w0 w' tb mb ps S (insP qs R s.data.toList) (insS R s.data.toList) := by
  obtain ⟨F, G, h⟩ := h
  exact (h.mo.insert h.im s hk hSl hv).mono fun e w' ⟨h1, G', h2, h3⟩ => ⟨h1, F, G', h.mmoved h2 (h.im.ins hv) h3⟩

theorem St2.tremove (h : St2 w0 wr tb mb ps S qs R) (s : ByteArray) (hk : ps.length ≤ 1000000000) (hs : s.size ≤ 1000000000) (hSl : S.length ≤ 1000000000) :
    Calls Yatv.prog 12 #[.pointer (some ⟨tb,0,none⟩), .string s] wr fun e w' => e = .returned (.bool (memb S s.data.toList)) ∧ St2 w0 w' tb mb ps (S.erase s.data.toList) qs R := by
  obtain ⟨F, G, h⟩ := h
  exact (h.tr.remove h.it s hk hs hSl).mono fun e w' ⟨h1, F', h2, h3⟩ => ⟨h1, F', G, h.tmoved h2 (h.it.rem _) h3⟩

theorem St2.mremove (h : St2 w0 wr tb mb ps S qs R) (s : ByteArray) (hk : qs.length ≤ 1000000) (hs : s.size ≤ 1000000) (hSl : R.length ≤ 1000000) :
    Calls Yatv.prog 51 #[.pointer (some ⟨mb,0,none⟩), .string s] wr fun e w' => e = .returned (.bool (memb R s.data.toList)) ∧ St2 w0 w' tb mb ps S qs (R.erase s.data.toList) := by
  obtain ⟨F, G, h⟩ := h
  exact (h.mo.remove h.im s hk hs hSl).mono fun e w' ⟨h1, h2, h3⟩ => ⟨h1, F, G, h.mmoved h2 (h.im.rem _) h3⟩

theorem St2.later (h : St2 w0 wr tb mb ps S qs R) (hb : Below wr.heap.size wr w') : St2 w0 w' tb mb ps S qs R := by
  obtain ⟨F, G, h⟩ := h
  have hk : Kept (fun _ => False) wr w' := Kept.of_below hb
  exact ⟨F, G, ⟨h.tr.kept hk (fun _ _ e => e), h.mo.kept hk (fun _ _ e => e), h.it, h.im, h.apart, h.below.trans (hb.mono h.below.size), h.newF, h.newG⟩⟩

theorem St2.below (h : St2 w0 wr tb mb ps S qs R) : Below w0.heap.size w0 wr := by obtain ⟨F, G, h⟩ := h; exact h.below
theorem St2.it (h : St2 w0 wr tb mb ps S qs R) : SInv ps S := by obtain ⟨F, G, h⟩ := h; exact h.it

theorem St2.new (w : World) : St2 w ((w.alloc (.cells #[.slice none 0 0, .slice none 0 0, .slice none 0 0] 30)).alloc (.cells #[.slice none 0 0, .slice none 0 0, .slice none 0 0] 85)) w.heap.size (w.heap.size + 1) [] [] [] [] := by
  refine ⟨fun b => b = w.heap.size, fun b => b = w.heap.size + 1, ⟨?_, ?_, SInv.nil, SInv.nil, ?_, ?_, ?_, ?_⟩⟩
  · exact (Tr.new w).kept ((Kept.refl (fun _ => False) _).alloc _) (fun _ _ e => e)
  · refine ⟨.slice none 0 0, .slice none 0 0, .slice none 0 0, ?_, ⟨?_, Row.nil _ _ _ _, Row.nil _ _ _ _, Row.nil _ _ _ _, by simp [Value.ownBlock], by simp [Value.ownBlock], by simp [Value.ownBlock], by simp [Value.ownBlock], by simp [Value.ownBlock], by simp [Value.ownBlock]⟩⟩
    · funext b
      simp [foot, Value.ownBlock]
    · have := heap_alloc_new (w.alloc (.cells #[.slice none 0 0, .slice none 0 0, .slice none 0 0] 30)) (.cells #[.slice none 0 0, .slice none 0 0, .slice none 0 0] 85)
      rw [World.size_alloc] at this
      exact this
  · intro b h1 h2; omega
  · exact ((Below.refl _ _).alloc (Nat.le_refl _) _).alloc (by simp) _
  · intro b hb; omega
  · intro b hb; omega
end

/-! ### How many links there are -/

def rowN (ps : List (List UInt8)) (n : Nat) : Nat → Nat
  | 0 => 0
  | L + 1 => rowN ps n L + if nxt ps n L = 0 then 0 else 1
def cntN (ps : List (List UInt8)) : Nat → Nat
  | 0 => 0
  | k + 1 => cntN ps k + rowN ps k 26

theorem rowN_le (ps : List (List UInt8)) (n : Nat) : ∀ L, rowN ps n L ≤ L
  | 0 => Nat.le_refl _
  | L + 1 => by have := rowN_le ps n L; rw [rowN]; split <;> omega
theorem cntN_le (ps : List (List UInt8)) : ∀ k, cntN ps k ≤ 26 * k
  | 0 => Nat.le_refl _
  | k + 1 => by have := cntN_le ps k; have := rowN_le ps k 26; rw [cntN]; omega

def kidB (p q : List UInt8) : Bool := decide (q ≠ [] ∧ q.dropLast = p)

/-- The child's path. -/
def kidP (p : List UInt8) (l : Nat) : List UInt8 := p ++ [UInt8.ofNat (97 + l)]

theorem nxt_ne {ps : List (List UInt8)} (h : PInv ps) {n : Nat} {p : List UInt8} (hn : ps[n]? = some p) (l : Nat) : nxt ps n l = 0 ↔ kidP p l ∉ ps := by
  rw [nxt_some hn]
  unfold kidP
  constructor
  · intro e hm
    rw [if_pos hm] at e
    have := h.idx_pos hm (by simp)
    omega
  · intro hm
    rw [if_neg hm]

theorem rowN_filter {ps : List (List UInt8)} (h : PInv ps) {n : Nat} {p : List UInt8} (hn : ps[n]? = some p) : ∀ L, rowN ps n L = ((List.range L).filter (fun l => decide (kidP p l ∈ ps))).length
  | 0 => rfl
  | L + 1 => by
    rw [rowN, rowN_filter h hn L, List.range_succ, List.filter_append, List.length_append]
    by_cases hm : kidP p L ∈ ps
    · rw [if_neg (fun e => (nxt_ne h hn L).1 e hm), List.filter_cons_of_pos (by simpa using hm)]
      rfl
    · rw [if_pos ((nxt_ne h hn L).2 hm), List.filter_cons_of_neg (by simpa using hm)]
      rfl

theorem kidP_inj {p : List UInt8} {a b : Nat} (ha : a < 26) (hb : b < 26) (h : kidP p a = kidP p b) : a = b := by
  have e2 : UInt8.ofNat (97 + a) = UInt8.ofNat (97 + b) := List.cons.inj (List.append_inj' h rfl).2 |>.1
  have := congrArg UInt8.toNat e2
  rw [UInt8.toNat_ofNat', UInt8.toNat_ofNat'] at this
  omega

theorem kidB_iff (p q : List UInt8) : kidB p q = true ↔ q ≠ [] ∧ q.dropLast = p := by unfold kidB; exact decide_eq_true_iff

theorem kidB_kidP (p : List UInt8) (l : Nat) : kidB p (kidP p l) = true := by
  rw [kidB_iff]
  unfold kidP
  exact ⟨by simp, List.dropLast_concat⟩

theorem kid_of {ps : List (List UInt8)} (h : PInv ps) {p x : List UInt8} (hx : x ∈ ps) (hk : kidB p x = true) : ∃ l, l < 26 ∧ kidP p l = x := by
  obtain ⟨h1, h2⟩ := (kidB_iff p x).1 hk
  have hl := (validB_iff _).1 (h.letters x hx) (x.getLast h1) (List.getLast_mem _)
  refine ⟨(x.getLast h1).toNat - 97, by omega, ?_⟩
  unfold kidP
  rw [ofNat_letter _ hl.1, ← h2]
  exact List.dropLast_concat_getLast h1

theorem rowN_kids {ps : List (List UInt8)} (h : PInv ps) {n : Nat} {p : List UInt8} (hn : ps[n]? = some p) : rowN ps n 26 = ps.countP (kidB p) := by
  rw [rowN_filter h hn, List.countP_eq_length_filter]
  have hnd1 : ((List.range 26).filter (fun l => decide (kidP p l ∈ ps))).Nodup := List.Nodup.sublist List.filter_sublist List.nodup_range
  have hmap : (((List.range 26).filter (fun l => decide (kidP p l ∈ ps))).map (kidP p)).Nodup := by
    rw [List.Nodup, List.pairwise_map]
    refine List.Pairwise.imp_of_mem ?_ hnd1
    intro a b ha hb hab e
    exact hab (kidP_inj (by simpa using (List.mem_filter.1 ha).1) (by simpa using (List.mem_filter.1 hb).1) e)
  have hnd2 : (ps.filter (kidB p)).Nodup := List.Nodup.sublist List.filter_sublist h.nodup
  have s1 : ∀ x ∈ ((List.range 26).filter (fun l => decide (kidP p l ∈ ps))).map (kidP p), x ∈ ps.filter (kidB p) := fun x hx => by
    obtain ⟨l, hl, rfl⟩ := List.mem_map.1 hx
    have hm := (List.mem_filter.1 hl).2
    exact List.mem_filter.2 ⟨by simpa using hm, kidB_kidP p l⟩
  have s2 : ∀ x ∈ ps.filter (kidB p), x ∈ ((List.range 26).filter (fun l => decide (kidP p l ∈ ps))).map (kidP p) := fun x hx => by
    obtain ⟨hx1, hx2⟩ := List.mem_filter.1 hx
    obtain ⟨l, hl, e⟩ := kid_of h hx1 hx2
    exact List.mem_map.2 ⟨l, List.mem_filter.2 ⟨by simpa using hl, by simpa [e] using hx1⟩, e⟩
  have l1 := length_le_of_sub hmap s1
  have l2 := length_le_of_sub hnd2 s2
  rw [List.length_map] at l1 l2
  exact Nat.le_antisymm l1 l2

theorem countP_or (f g k : List UInt8 → Bool) (hk : ∀ x, k x = (f x || g x)) (hd : ∀ x, f x = true → g x = false) : ∀ l : List (List UInt8), l.countP k = l.countP f + l.countP g
  | [] => rfl
  | x :: l => by
    rw [List.countP_cons, List.countP_cons, List.countP_cons, countP_or f g k hk hd l, hk]
    cases hf : f x
    · cases hg : g x <;> simp <;> omega
    · rw [hd x hf]; simp; omega

theorem cntN_eq {ps : List (List UInt8)} (h : PInv ps) : ∀ k, k ≤ ps.length → cntN ps k = ps.countP (fun q => decide (q ≠ [] ∧ q.dropLast ∈ ps.take k))
  | 0, _ => by simp [cntN]
  | k + 1, hk => by
    have hn := List.getElem?_eq_getElem (show k < ps.length by omega)
    rw [cntN, cntN_eq h k (by omega), rowN_kids h hn]
    refine (countP_or _ _ _ (fun x => ?_) (fun x hx => ?_) ps).symm
    · rw [List.take_succ_eq_append_getElem (show k < ps.length by omega), Bool.eq_iff_iff]
      simp only [kidB, Bool.or_eq_true, decide_eq_true_iff, List.mem_append, List.mem_singleton]
      constructor
      · rintro ⟨h1, h2 | h2⟩
        · exact .inl ⟨h1, h2⟩
        · exact .inr ⟨h1, h2⟩
      · rintro (⟨h1, h2⟩ | ⟨h1, h2⟩)
        · exact ⟨h1, .inl h2⟩
        · exact ⟨h1, .inr h2⟩
    · have hx' : x ≠ [] ∧ x.dropLast ∈ ps.take k := by simpa using hx
      simp only [kidB, decide_eq_false_iff_not]
      rintro ⟨_, e⟩
      obtain ⟨j, hj, e2⟩ := List.getElem_of_mem hx'.2
      rw [List.length_take] at hj
      rw [List.getElem_take, e] at e2
      have := (List.getElem_inj h.nodup).1 e2
      omega

theorem cntN_all {ps : List (List UInt8)} (h : PInv ps) (hne : 0 < ps.length) : cntN ps ps.length = ps.length - 1 := by
  rw [cntN_eq h _ (Nat.le_refl _), List.take_length]
  have e1 : ps.countP (fun q => decide (q ≠ [] ∧ q.dropLast ∈ ps)) = ps.countP (fun q => decide (¬ (q == []) = true)) := by
    apply List.countP_congr
    intro q hq
    simp only [decide_eq_true_iff, beq_iff_eq]
    constructor
    · exact fun h => h.1
    · intro hq2
      refine ⟨hq2, ?_⟩
      have : q = q.dropLast ++ [q.getLast hq2] := (List.dropLast_concat_getLast hq2).symm
      rw [this] at hq
      exact h.pre _ _ hq
  rw [e1]
  have e2 := List.length_eq_countP_add_countP (fun q : List UInt8 => q == []) (l := ps)
  have e3 : ps.countP (fun q : List UInt8 => q == []) = 1 := by
    have : ps.countP (fun q : List UInt8 => q == []) = ps.count [] := rfl
    rw [this, h.nodup.count, if_pos (h.nil_mem (fun e => by simp [e] at hne))]
  omega

end Go.Proofs.Ymwhat
