import Derived.Test.YmwhatRank
set_option linter.unusedVariables false
set_option linter.unusedSimpArgs false
namespace Go.Proofs.Ymwhat
open Go.RowKit

/-- Strictly increasing. -/
def Srt (M : List (List UInt8)) : Prop := M.Pairwise (fun a b => bl a b = true)

theorem Srt.nodup {M : List (List UInt8)} (h : Srt M) : M.Nodup := by
  refine List.Pairwise.imp ?_ h
  intro a b hab e
  subst e
  rw [bl_irrefl] at hab
  cases hab

/-- A sorted list parted by two conditions, the one below the other. -/
theorem split_sorted (P Q R : List UInt8 → Bool) : ∀ (M : List (List UInt8)), Srt M → (∀ x ∈ M, ∀ y ∈ M, P x = true → Q y = true → bl x y = true) → (∀ x ∈ M, R x = (P x || Q x)) → M.filter R = M.filter P ++ M.filter Q
  | [], _, _, _ => rfl
  | x :: M, hs, hpq, hr => by
    have hs' := List.pairwise_cons.1 hs
    have ih := split_sorted P Q R M hs'.2 (fun a ha b hb => hpq a (by simp [ha]) b (by simp [hb])) (fun a ha => hr a (by simp [ha]))
    have hx := hr x (by simp)
    cases hP : P x
    · cases hQ : Q x
      · rw [hP, hQ] at hx
        rw [List.filter_cons_of_neg (by simp [hx]), List.filter_cons_of_neg (by simp [hP]), List.filter_cons_of_neg (by simp [hQ]), ih]
      · rw [hP, hQ] at hx
        have hnil : M.filter P = [] := by
          rw [List.filter_eq_nil_iff]
          intro a ha hPa
          have h1 := hpq a (by simp [ha]) x (by simp) hPa hQ
          have h2 := hs'.1 a ha
          rw [bl_asymm h1] at h2
          cases h2
        rw [List.filter_cons_of_pos (by simp [hx]), List.filter_cons_of_neg (by simp [hP]), List.filter_cons_of_pos (by simp [hQ]), ih, hnil]
        rfl
    · have hQ : Q x = false := by
        cases hQ : Q x
        · rfl
        · have := hpq x (by simp) x (by simp) hP hQ
          rw [bl_irrefl] at this
          cases this
      rw [hP] at hx
      rw [List.filter_cons_of_pos (by simp [hx]), List.filter_cons_of_pos (by simp [hP]), List.filter_cons_of_neg (by simp [hQ]), ih]
      rfl

/-- Below p, strictly, by a letter not before l. -/
def kf (p : List UInt8) (l : Nat) (x : List UInt8) : Bool := preB p x && (match x.drop p.length with | [] => false | c :: _ => decide (97 + l ≤ c.toNat))

theorem kf_app (p r : List UInt8) (l : Nat) : kf p l (p ++ r) = (match r with | [] => false | c :: _ => decide (97 + l ≤ c.toNat)) := by
  unfold kf
  rw [(preB_iff p (p ++ r)).2 ⟨r, rfl⟩, List.drop_left]
  rfl

theorem kf_not {p x : List UInt8} (h : preB p x = false) (l : Nat) : kf p l x = false := by unfold kf; rw [h]; rfl

theorem filter_self {M : List (List UInt8)} (h : M.Nodup) (p : List UInt8) : M.filter (fun x => x == p) = if p ∈ M then [p] else [] := by
  rw [List.filter_beq, h.count]
  split <;> rfl

theorem bl_prefix (p : List UInt8) (c : UInt8) (r : List UInt8) : bl p (p ++ c :: r) = true := by
  have := bl_append p [] (c :: r)
  rw [List.append_nil] at this
  rw [this]; rfl

theorem kids_split {M : List (List UInt8)} (h : Srt M) (hv : ∀ x ∈ M, validB x = true) (p : List UInt8) : M.filter (preB p) = (if p ∈ M then [p] else []) ++ M.filter (kf p 0) := by
  rw [← filter_self h.nodup p]
  refine split_sorted _ _ _ M h ?_ ?_
  · intro x hx y hy h1 h2
    have h1' : x = p := by simpa using h1
    subst h1'
    cases e : preB x y
    · rw [kf_not e] at h2; cases h2
    · obtain ⟨r, rfl⟩ := (preB_iff _ _).1 e
      cases r with
      | nil => rw [kf_app] at h2; cases h2
      | cons c r => exact bl_prefix _ _ _
  · intro x hx
    cases e : preB p x
    · have : (x == p) = false := by
        rw [beq_eq_false_iff_ne]
        intro h
        rw [h, show preB p p = true from (preB_iff p p).2 ⟨[], by simp⟩] at e
        cases e
      rw [this, kf_not e]
      rfl
    · obtain ⟨r, rfl⟩ := (preB_iff _ _).1 e
      rw [kf_app]
      cases r with
      | nil => simp
      | cons c r =>
        have := (validB_iff _).1 (hv _ hx) c (by simp)
        simp [this.1]

theorem kids_step {M : List (List UInt8)} (h : Srt M) (p : List UInt8) (l : Nat) (hl : l < 26) : M.filter (kf p l) = M.filter (preB (p ++ [ltr l])) ++ M.filter (kf p (l + 1)) := by
  refine split_sorted _ _ _ M h ?_ ?_
  · intro x hx y hy h1 h2
    obtain ⟨r, rfl⟩ := (preB_iff _ _).1 h1
    cases e : preB p y
    · rw [kf_not e] at h2; cases h2
    · obtain ⟨s, rfl⟩ := (preB_iff _ _).1 e
      rw [kf_app] at h2
      cases s with
      | nil => cases h2
      | cons c s =>
        have h2' : 97 + (l + 1) ≤ c.toNat := by simpa using h2
        rw [List.append_assoc, bl_append, List.singleton_append, bl_cons_iff]
        exact .inl (by rw [ltr_toNat l hl]; omega)
  · intro x hx
    cases e : preB p x
    · rw [kf_not e, kf_not e, preB_of_not _ e]
      rfl
    · obtain ⟨r, rfl⟩ := (preB_iff _ _).1 e
      rw [kf_app, kf_app, preB_snoc]
      cases r with
      | nil => rfl
      | cons c r =>
        rw [preB_one]
        have e1 : (ltr l == c) = decide (c.toNat = 97 + l) := by
          rw [Bool.eq_iff_iff, beq_iff_eq, decide_eq_true_iff]
          constructor
          · intro h; rw [← h]; exact ltr_toNat l hl
          · intro h; exact u8_eq (by rw [ltr_toNat l hl, h])
        rw [e1, Bool.eq_iff_iff]
        simp only [Bool.or_eq_true, decide_eq_true_iff]
        omega

theorem kids_end {M : List (List UInt8)} (hv : ∀ x ∈ M, validB x = true) (p : List UInt8) : M.filter (kf p 26) = [] := by
  rw [List.filter_eq_nil_iff]
  intro x hx
  cases e : preB p x
  · rw [kf_not e]; simp
  · obtain ⟨r, rfl⟩ := (preB_iff _ _).1 e
    rw [kf_app]
    cases r with
    | nil => simp
    | cons c r =>
      have := (validB_iff _).1 (hv _ hx) c (by simp)
      simp only [decide_eq_true_iff]
      omega

theorem cnt_len (M : List (List UInt8)) (p : List UInt8) : (M.filter (preB p)).length = cnt M p := by
  unfold cnt preB
  rw [List.countP_eq_length_filter]

theorem filter_nil_pre (M : List (List UInt8)) : M.filter (preB []) = M := by
  rw [List.filter_eq_self]
  intro x _
  exact preB_nil x

theorem cnt_nil (M : List (List UInt8)) : cnt M [] = M.length := by rw [← cnt_len, filter_nil_pre]

/-- The target, where the walk down stands. -/
def At (M : List (List UInt8)) (p : List UInt8) (k : Nat) (t : List UInt8) : Prop := (M.filter (preB p))[k]? = some t
def AtL (M : List (List UInt8)) (p : List UInt8) (l k : Nat) (t : List UInt8) : Prop := (M.filter (kf p l))[k]? = some t

theorem At.done {M : List (List UInt8)} (h : Srt M) (hv : ∀ x ∈ M, validB x = true) {p t : List UInt8} (hm : memb M p = true) (ha : At M p 0 t) : t = p := by
  unfold At at ha
  have hm' : p ∈ M := by simpa [memb] using hm
  rw [kids_split h hv, if_pos hm'] at ha
  simpa using ha.symm

theorem At.down {M : List (List UInt8)} (h : Srt M) (hv : ∀ x ∈ M, validB x = true) {p t : List UInt8} {k : Nat} (hm : memb M p = true) (ha : At M p (k + 1) t) : AtL M p 0 k t := by
  unfold At at ha
  have hm' : p ∈ M := by simpa [memb] using hm
  rw [kids_split h hv, if_pos hm'] at ha
  unfold AtL
  simpa using ha

theorem At.down0 {M : List (List UInt8)} (h : Srt M) (hv : ∀ x ∈ M, validB x = true) {p t : List UInt8} {k : Nat} (hm : memb M p = false) (ha : At M p k t) : AtL M p 0 k t := by
  unfold At at ha
  have hm' : ¬ p ∈ M := by simpa [memb] using hm
  rw [kids_split h hv, if_neg hm'] at ha
  unfold AtL
  simpa using ha

theorem AtL.lt {M : List (List UInt8)} (hv : ∀ x ∈ M, validB x = true) {p t : List UInt8} {l k : Nat} (hl : l ≤ 26) (ha : AtL M p l k t) : l < 26 := by
  rcases Nat.lt_or_ge l 26 with e | e
  · exact e
  · obtain rfl : l = 26 := by omega
    unfold AtL at ha
    rw [kids_end hv] at ha
    simp at ha

theorem AtL.next {M : List (List UInt8)} (h : Srt M) {p t : List UInt8} {l k : Nat} (hl : l < 26) (hk : cnt M (p ++ [ltr l]) ≤ k) (ha : AtL M p l k t) : AtL M p (l + 1) (k - cnt M (p ++ [ltr l])) t := by
  unfold AtL at ha ⊢
  rw [kids_step h p l hl, List.getElem?_append_right (by rw [cnt_len]; exact hk), cnt_len] at ha
  exact ha

theorem AtL.here {M : List (List UInt8)} (h : Srt M) {p t : List UInt8} {l k : Nat} (hl : l < 26) (hk : k < cnt M (p ++ [ltr l])) (ha : AtL M p l k t) : At M (p ++ [ltr l]) k t := by
  unfold AtL At at *
  rw [kids_step h p l hl, List.getElem?_append_left (by rw [cnt_len]; exact hk)] at ha
  exact ha

theorem At.start {M : List (List UInt8)} {k : Nat} (hk : k < M.length) : At M [] k M[k] := by
  unfold At
  rw [filter_nil_pre, List.getElem?_eq_getElem hk]

theorem AtL.klt {M : List (List UInt8)} {p t : List UInt8} {l k : Nat} (ha : AtL M p l k t) : k < M.length := by
  unfold AtL at ha
  have := (List.getElem?_eq_some_iff.1 ha).1
  exact Nat.lt_of_lt_of_le this (List.length_filter_le _ _)
theorem At.klt {M : List (List UInt8)} {p t : List UInt8} {k : Nat} (ha : At M p k t) : k < M.length := by
  unfold At at ha
  have := (List.getElem?_eq_some_iff.1 ha).1
  exact Nat.lt_of_lt_of_le this (List.length_filter_le _ _)

/-! ### The sorted model -/

/-- Where w stands, or would stand. -/
structure Pos (M : List (List UInt8)) (x : List UInt8) (i : Nat) (f : Bool) : Prop where
  le : i ≤ M.length
  less : ∀ j (h : j < M.length), j < i → bl M[j] x = true
  yes : f = true → M[i]? = some x
  no : f = false → ∀ y, M[i]? = some y → bl x y = true

theorem Pos.mem {M : List (List UInt8)} {x : List UInt8} {i : Nat} (h : Pos M x i true) : x ∈ M := List.mem_of_getElem? (h.yes rfl)

theorem Pos.after {M : List (List UInt8)} {x : List UInt8} {i : Nat} (hs : Srt M) (h : Pos M x i false) (j : Nat) (hj : j < M.length) (hij : i ≤ j) : bl x M[j] = true := by
  rcases Nat.lt_or_ge i j with e | e
  · have hi : i < M.length := by omega
    exact bl_trans (h.no rfl _ (List.getElem?_eq_getElem hi)) (List.pairwise_iff_getElem.1 hs i j hi hj e)
  · obtain rfl : i = j := by omega
    exact h.no rfl _ (List.getElem?_eq_getElem hj)

theorem Pos.not_mem {M : List (List UInt8)} {x : List UInt8} {i : Nat} (hs : Srt M) (h : Pos M x i false) : x ∉ M := by
  intro hm
  obtain ⟨j, hj, e⟩ := List.getElem_of_mem hm
  rcases Nat.lt_or_ge j i with g | g
  · have := h.less j hj g
    rw [e, bl_irrefl] at this; cases this
  · have := h.after hs j hj g
    rw [e, bl_irrefl] at this; cases this

def insAt (M : List (List UInt8)) (x : List UInt8) (i : Nat) : List (List UInt8) := M.take i ++ x :: M.drop i

theorem insAt_perm (M : List (List UInt8)) (x : List UInt8) (i : Nat) : (insAt M x i).Perm (M ++ [x]) := by
  unfold insAt
  refine List.perm_middle.trans ?_
  rw [List.take_append_drop]
  exact (List.perm_append_singleton x M).symm

theorem Pos.srt {M : List (List UInt8)} {x : List UInt8} {i : Nat} (hs : Srt M) (h : Pos M x i false) : Srt (insAt M x i) := by
  unfold insAt Srt
  rw [List.pairwise_append]
  refine ⟨List.Pairwise.sublist (List.take_sublist _ _) hs, ?_, ?_⟩
  · rw [List.pairwise_cons]
    refine ⟨fun y hy => ?_, List.Pairwise.sublist (List.drop_sublist _ _) hs⟩
    obtain ⟨j, hj, e⟩ := List.getElem_of_mem hy
    rw [List.length_drop] at hj
    rw [List.getElem_drop] at e
    rw [← e]
    exact h.after hs _ _ (by omega)
  · intro y hy z hz
    obtain ⟨j, hj, e⟩ := List.getElem_of_mem hy
    rw [List.length_take] at hj
    rw [List.getElem_take] at e
    have h1 : bl y x = true := by rw [← e]; exact h.less j (by omega) (by omega)
    rcases List.mem_cons.1 hz with rfl | hz
    · exact h1
    · obtain ⟨k, hk, e2⟩ := List.getElem_of_mem hz
      rw [List.length_drop] at hk
      rw [List.getElem_drop] at e2
      exact bl_trans h1 (by rw [← e2]; exact h.after hs _ _ (by omega))

theorem Pos.erase {M : List (List UInt8)} {x : List UInt8} {i : Nat} (hs : Srt M) (h : Pos M x i true) : M.eraseIdx i = M.erase x := by
  have hx := h.yes rfl
  obtain ⟨hl, e⟩ := List.getElem?_eq_some_iff.1 hx
  have : M.idxOf x = i := by rw [← e]; exact hs.nodup.idxOf_getElem i hl
  rw [← this, eraseIdx_idxOf]

theorem srt_erase {M : List (List UInt8)} (hs : Srt M) (x : List UInt8) : Srt (M.erase x) := List.Pairwise.sublist List.erase_sublist hs

/-- One set by two lists. -/
theorem St.perm {w0 wr : World} {tb : Nat} {v : Value} {ps S S' M : List (List UInt8)} (h : St w0 wr tb v ps S M) (hp : S.Perm S') : St w0 wr tb v ps S' M := by
  obtain ⟨F, h⟩ := h
  have e1 : memb S = memb S' := by
    funext x
    unfold memb
    rw [Bool.eq_iff_iff, decide_eq_true_iff, decide_eq_true_iff]
    exact hp.mem_iff
  have e2 : cnt S = cnt S' := by
    funext x
    exact hp.countP_eq _
  refine ⟨F, ⟨?_, ⟨h.inv.p, hp.nodup_iff.1 h.inv.nodup, fun x hx => h.inv.sub x (hp.mem_iff.2 hx)⟩, h.sr, h.apart, h.below, h.newF, h.newV⟩⟩
  rw [← e1, ← e2]
  exact h.tr

end Go.Proofs.Ymwhat
