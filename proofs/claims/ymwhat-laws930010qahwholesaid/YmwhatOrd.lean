import Derived.Test.YmwhatQadD
set_option linter.unusedVariables false
set_option linter.unusedSimpArgs false
namespace Go.Proofs.Ymwhat
open Go.RowKit

/-- Bytewise order. -/
def bl : List UInt8 → List UInt8 → Bool
  | _, [] => false
  | [], _ :: _ => true
  | a :: x, b :: y => a < b || (a == b && bl x y)

theorem bl_nil (a : List UInt8) : bl a [] = false := by cases a <;> rfl
theorem bl_nil_left (b : List UInt8) : bl [] b = !b.isEmpty := by cases b <;> rfl
theorem bl_cons (a b : UInt8) (x y : List UInt8) : bl (a :: x) (b :: y) = (decide (a < b) || (a == b && bl x y)) := rfl

theorem u8_lt (a b : UInt8) : a < b ↔ a.toNat < b.toNat := UInt8.lt_iff_toNat_lt
theorem u8_eq {a b : UInt8} (h : a.toNat = b.toNat) : a = b := UInt8.toNat_inj.1 h

theorem bl_cons_iff (a b : UInt8) (x y : List UInt8) : bl (a :: x) (b :: y) = true ↔ a.toNat < b.toNat ∨ (a = b ∧ bl x y = true) := by
  rw [bl_cons]
  simp [u8_lt]

theorem bl_irrefl : ∀ a : List UInt8, bl a a = false
  | [] => rfl
  | c :: x => by
    rw [bl_cons, bl_irrefl x]
    simp

theorem bl_trans : ∀ {a b c : List UInt8}, bl a b = true → bl b c = true → bl a c = true
  | a, b, [], _, h => by rw [bl_nil] at h; cases h
  | [], b, c :: z, _, _ => rfl
  | a :: x, [], c :: z, h, _ => by rw [bl_nil] at h; cases h
  | a :: x, b :: y, c :: z, h1, h2 => by
    rw [bl_cons_iff] at h1 h2 ⊢
    rcases h1 with h1 | ⟨rfl, h1⟩
    · rcases h2 with h2 | ⟨rfl, h2⟩
      · exact .inl (by omega)
      · exact .inl h1
    · rcases h2 with h2 | ⟨rfl, h2⟩
      · exact .inl h2
      · exact .inr ⟨rfl, bl_trans h1 h2⟩

theorem bl_tri : ∀ (a b : List UInt8), bl a b = true ∨ a = b ∨ bl b a = true
  | [], [] => .inr (.inl rfl)
  | [], _ :: _ => .inl rfl
  | _ :: _, [] => .inr (.inr rfl)
  | a :: x, b :: y => by
    rw [bl_cons_iff, bl_cons_iff]
    rcases Nat.lt_trichotomy a.toNat b.toNat with h | h | h
    · exact .inl (.inl h)
    · have := u8_eq h
      subst this
      rcases bl_tri x y with g | g | g
      · exact .inl (.inr ⟨rfl, g⟩)
      · exact .inr (.inl (by rw [g]))
      · exact .inr (.inr (.inr ⟨rfl, g⟩))
    · exact .inr (.inr (.inl h))

theorem bl_asymm {a b : List UInt8} (h : bl a b = true) : bl b a = false := by
  cases e : bl b a
  · rfl
  · have := bl_trans h e
    rw [bl_irrefl] at this
    cases this

theorem bl_append (p a b : List UInt8) : bl (p ++ a) (p ++ b) = bl a b := by
  induction p with
  | nil => rfl
  | cons c p ih =>
    rw [List.cons_append, List.cons_append, bl_cons, ih]
    simp

theorem preB_iff (p s : List UInt8) : preB p s = true ↔ ∃ r, s = p ++ r := by
  unfold preB
  rw [List.isPrefixOf_iff_prefix]
  constructor
  · rintro ⟨r, rfl⟩; exact ⟨r, rfl⟩
  · rintro ⟨r, rfl⟩; exact ⟨r, rfl⟩

/-- A word that begins with q is not less than q. -/
theorem bl_of_pre {q w : List UInt8} (h : preB q w = true) : bl w q = false := by
  obtain ⟨r, rfl⟩ := (preB_iff q w).1 h
  have := bl_append q r []
  rw [List.append_nil, bl_nil] at this
  exact this

theorem preB_nil (s : List UInt8) : preB [] s = true := by simp [preB]

/-! ### How many words are less -/

/-- Of the words less than q those that do not begin with q's first i letters. -/
def rkTo (S : List (List UInt8)) (q : List UInt8) (i : Nat) : Nat := S.countP (fun w => bl w q && !preB (q.take i) w)
def rk (S : List (List UInt8)) (q : List UInt8) : Nat := S.countP (fun w => bl w q)

theorem rkTo_zero (S : List (List UInt8)) (q : List UInt8) : rkTo S q 0 = 0 := by
  unfold rkTo
  rw [List.countP_eq_zero]
  intro w _
  simp [preB_nil]

theorem rkTo_le (S : List (List UInt8)) (q : List UInt8) (i : Nat) : rkTo S q i ≤ S.length := List.countP_le_length

theorem rkTo_full (S : List (List UInt8)) (q : List UInt8) : rkTo S q q.length = rk S q := by
  unfold rkTo rk
  apply List.countP_congr
  intro w _
  rw [List.take_length]
  constructor
  · intro h; simp at h; exact h.1
  · intro h
    have : preB q w = false := by
      cases e : preB q w
      · rfl
      · rw [bl_of_pre e] at h; cases h
    simp [h, this]

/-- No word begins so. -/
theorem rkTo_stop (S : List (List UInt8)) (q : List UInt8) (i : Nat) (h : ∀ w ∈ S, preB (q.take i) w = false) : rkTo S q i = rk S q := by
  unfold rkTo rk
  apply List.countP_congr
  intro w hw
  simp [h w hw]

def ltr (L : Nat) : UInt8 := UInt8.ofNat (97 + L)
theorem ltr_toNat (L : Nat) (h : L < 26) : (ltr L).toNat = 97 + L := by
  unfold ltr
  rw [UInt8.toNat_ofNat']
  omega

/-- The words below p by the first L letters. -/
def wsum (S : List (List UInt8)) (p : List UInt8) : Nat → Nat
  | 0 => 0
  | L + 1 => wsum S p L + cnt S (p ++ [ltr L])

def wOne (w p : List UInt8) : Nat → Nat
  | 0 => 0
  | L + 1 => wOne w p L + if preB (p ++ [ltr L]) w then 1 else 0

theorem wsum_cons (w : List UInt8) (S : List (List UInt8)) (p : List UInt8) : ∀ L, wsum (w :: S) p L = wOne w p L + wsum S p L
  | 0 => rfl
  | L + 1 => by
    simp only [wsum, wOne, wsum_cons w S p L, cnt, List.countP_cons]
    have : (p ++ [ltr L]).isPrefixOf w = preB (p ++ [ltr L]) w := rfl
    rw [this]
    omega

theorem preB_snoc (p r : List UInt8) (c : UInt8) : preB (p ++ [c]) (p ++ r) = preB [c] r := by
  unfold preB
  induction p with
  | nil => rfl
  | cons a p ih => simpa using ih

theorem preB_of_not {p w : List UInt8} (c : List UInt8) (h : preB p w = false) : preB (p ++ c) w = false := by
  cases e : preB (p ++ c) w
  · rfl
  · obtain ⟨r, rfl⟩ := (preB_iff _ _).1 e
    have : preB p (p ++ c ++ r) = true := (preB_iff _ _).2 ⟨c ++ r, by simp⟩
    rw [this] at h; cases h

theorem wOne_not {p w : List UInt8} (h : preB p w = false) : ∀ L, wOne w p L = 0
  | 0 => rfl
  | L + 1 => by simp [wOne, wOne_not h L, preB_of_not _ h]

theorem wOne_self (p : List UInt8) : ∀ L, wOne p p L = 0
  | 0 => rfl
  | L + 1 => by
    have : preB (p ++ [ltr L]) p = false := by
      cases e : preB (p ++ [ltr L]) p
      · rfl
      · obtain ⟨r, hr⟩ := (preB_iff _ _).1 e
        have := congrArg List.length hr
        simp at this
    simp [wOne, wOne_self p L, this]


theorem preB_one (a c : UInt8) (r : List UInt8) : preB [a] (c :: r) = (a == c) := by
  unfold preB
  rw [List.isPrefixOf_cons_cons, List.isPrefixOf_nil_left, Bool.and_true]

theorem wOne_child (p r : List UInt8) (c : UInt8) (hc : 97 ≤ c.toNat ∧ c.toNat ≤ 122) : ∀ L, L ≤ 26 → wOne (p ++ c :: r) p L = if c.toNat < 97 + L then 1 else 0
  | 0, _ => by rw [if_neg (by omega)]; rfl
  | L + 1, hL => by
    rw [wOne, wOne_child p r c hc L (by omega), preB_snoc, preB_one]
    have e : ((ltr L == c) = true) ↔ c.toNat = 97 + L := by
      rw [beq_iff_eq]
      constructor
      · intro h; rw [← h]; exact ltr_toNat L (by omega)
      · intro h; exact u8_eq (by rw [ltr_toNat L (by omega), h])
    by_cases h1 : c.toNat < 97 + L
    · rw [if_pos h1, if_neg (fun h => by have := e.1 h; omega), if_pos (show c.toNat < 97 + (L + 1) by omega)]
    · rw [if_neg h1]
      by_cases h2 : c.toNat = 97 + L
      · rw [if_pos (e.2 h2), if_pos (show c.toNat < 97 + (L + 1) by omega)]
      · rw [if_neg (fun h => h2 (e.1 h)), if_neg (show ¬ c.toNat < 97 + (L + 1) by omega)]

/-- One word's part in the step. -/
theorem rk_one (w q : List UInt8) (i : Nat) (hi : i < q.length) (hv : validB w = true) (L : Nat) (hL : L ≤ 26) (h1 : L = 26 ∨ q[i].toNat ≤ 97 + L) (h2 : L = 0 ∨ 97 + (L - 1) < q[i].toNat) :
    (if (bl w q && !preB (q.take (i + 1)) w) = true then 1 else 0) = (if (bl w q && !preB (q.take i) w) = true then 1 else 0) + (if (w == q.take i) = true then 1 else 0) + wOne w (q.take i) L := by
  have hq : q = q.take i ++ q[i] :: q.drop (i + 1) := by
    rw [← List.drop_eq_getElem_cons hi, List.take_append_drop]
  have ht : q.take (i + 1) = q.take i ++ [q[i]] := List.take_succ_eq_append_getElem hi
  rw [ht]
  generalize hp : q.take i = p at *
  generalize hcq : q[i] = c at *
  generalize q.drop (i + 1) = rest at *
  cases e : preB p w
  · -- not below p
    have e2 : preB (p ++ [c]) w = false := preB_of_not _ e
    have e3 : (w == p) = false := by
      rw [beq_eq_false_iff_ne]
      intro h
      rw [h, show preB p p = true from (preB_iff p p).2 ⟨[], by simp⟩] at e
      cases e
    rw [e2, e3, wOne_not e]
    simp
  · obtain ⟨r, rfl⟩ := (preB_iff p w).1 e
    cases r with
    | nil =>
      rw [List.append_nil] at hv e ⊢
      have e2 : preB (p ++ [c]) p = false := by
        cases e : preB (p ++ [c]) p
        · rfl
        · obtain ⟨r, hr⟩ := (preB_iff _ _).1 e
          have := congrArg List.length hr
          simp at this
      have e4 : bl p q = true := by
        rw [hq]
        have := bl_append p [] (c :: rest)
        rw [List.append_nil] at this
        rw [this]; rfl
      rw [e2, wOne_self, e4]
      simp
    | cons d r =>
      have hd := (validB_iff _).1 hv d (by simp)
      rw [wOne_child p r d hd L hL, preB_snoc]
      have e3 : (p ++ d :: r == p) = false := by
        rw [beq_eq_false_iff_ne]
        intro h
        have := congrArg List.length h
        simp at this
      rw [e3]
      have e4 : bl (p ++ d :: r) q = bl (d :: r) (c :: rest) := by rw [hq]; exact bl_append p _ _
      have e5 : preB [c] (d :: r) = (c == d) := preB_one c d r
      rw [e4, e5]
      by_cases h3 : d.toNat < c.toNat
      · have a1 : bl (d :: r) (c :: rest) = true := (bl_cons_iff _ _ _ _).2 (.inl h3)
        have a2 : (c == d) = false := by rw [beq_eq_false_iff_ne]; intro h; rw [h] at h3; omega
        rw [a1, a2, if_pos (show d.toNat < 97 + L by omega)]
        simp
      · by_cases h4 : d = c
        · subst h4
          rw [if_neg (show ¬ d.toNat < 97 + L by omega)]
          simp
        · have h5 : c.toNat < d.toNat := by
            rcases Nat.lt_or_ge c.toNat d.toNat with h | h
            · exact h
            · exact absurd (u8_eq (by omega)) h4
          have a1 : bl (d :: r) (c :: rest) = false := by
            cases e : bl (d :: r) (c :: rest)
            · rfl
            · rcases (bl_cons_iff _ _ _ _).1 e with h | ⟨h, _⟩
              · omega
              · exact absurd h h4
          rw [a1, if_neg (show ¬ d.toNat < 97 + L by omega)]
          simp

theorem rkTo_step_aux (q : List UInt8) (i : Nat) (hi : i < q.length) (L : Nat) (hL : L ≤ 26) (h1 : L = 26 ∨ q[i].toNat ≤ 97 + L) (h2 : L = 0 ∨ 97 + (L - 1) < q[i].toNat) : ∀ (S : List (List UInt8)), (∀ w ∈ S, validB w = true) →
    rkTo S q (i + 1) = rkTo S q i + S.countP (fun w => w == q.take i) + wsum S (q.take i) L
  | [], _ => by
    simp only [rkTo, List.countP_nil]
    have : ∀ L, wsum [] (q.take i) L = 0 := fun L => by induction L with | zero => rfl | succ L ih => simp [wsum, ih, cnt]
    rw [this]
  | w :: S, h => by
    have ih := rkTo_step_aux q i hi L hL h1 h2 S (fun x hx => h x (by simp [hx]))
    have one := rk_one w q i hi (h w (by simp)) L hL h1 h2
    unfold rkTo at ih ⊢
    rw [List.countP_cons, List.countP_cons, List.countP_cons, wsum_cons]
    omega

theorem rkTo_step {S : List (List UInt8)} (hn : S.Nodup) (hv : ∀ w ∈ S, validB w = true) (q : List UInt8) (i : Nat) (hi : i < q.length) (L : Nat) (hL : L ≤ 26) (h1 : L = 26 ∨ q[i].toNat ≤ 97 + L) (h2 : L = 0 ∨ 97 + (L - 1) < q[i].toNat) :
    rkTo S q (i + 1) = rkTo S q i + (if q.take i ∈ S then 1 else 0) + wsum S (q.take i) L := by
  rw [rkTo_step_aux q i hi L hL h1 h2 S hv]
  have : S.countP (fun w => w == q.take i) = S.count (q.take i) := rfl
  rw [this, hn.count]

end Go.Proofs.Ymwhat
