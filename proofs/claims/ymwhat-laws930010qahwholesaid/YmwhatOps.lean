import Derived.Test.YmwhatClone
set_option linter.unusedVariables false
set_option linter.unusedSimpArgs false
namespace Go.Proofs.Ymwhat
open Go.RowKit

def insS (S : List (List UInt8)) (s : List UInt8) : List (List UInt8) := if s ∈ S then S else S ++ [s]
def insP (ps S : List (List UInt8)) (s : List UInt8) : List (List UInt8) := if s ∈ S then ps else insTo ps s s.length

theorem memb_snoc (S : List (List UInt8)) (s : List UInt8) : memb (s :: S) = memb (S ++ [s]) := by
  funext p; simp [memb, or_comm]
theorem cnt_snoc (S : List (List UInt8)) (s : List UInt8) : cnt (s :: S) = cnt (S ++ [s]) := by
  funext p
  unfold cnt
  rw [List.countP_append, List.countP_cons, List.countP_singleton]

theorem SInv.ins {ps S : List (List UInt8)} (h : SInv ps S) {s : List UInt8} (hv : validB s = true) : SInv (insP ps S s) (insS S s) := by
  unfold insP insS
  by_cases hs : s ∈ S
  · simp only [if_pos hs]; exact h
  · simp only [if_neg hs]
    refine ⟨(insTo_inv h.p s hv s.length (Nat.le_refl _)).1, ?_, fun x hx => ?_⟩
    · rw [List.nodup_append]
      exact ⟨h.nodup, by simp, fun a ha b hb => by simp at hb; subst hb; exact fun e => hs (e ▸ ha)⟩
    · rw [List.mem_append] at hx
      rcases hx with hx | hx
      · exact (mem_insTo _).2 (.inl (h.sub x hx))
      · simp at hx; subst hx
        exact (mem_insTo _).2 (.inr ⟨x.length, Nat.le_refl _, by simp⟩)

theorem SInv.rem {ps S : List (List UInt8)} (h : SInv ps S) (s : List UInt8) : SInv ps (S.erase s) :=
  ⟨h.p, h.nodup.erase s, fun x hx => h.sub x (List.mem_of_mem_erase hx)⟩

theorem length_insP (ps S : List (List UInt8)) (s : List UInt8) : (insP ps S s).length ≤ ps.length + (s.length + 1) := by
  unfold insP
  split
  · omega
  · exact length_insTo ps s s.length

theorem length_insS (S : List (List UInt8)) (s : List UInt8) : (insS S s).length ≤ S.length + 1 := by
  unfold insS
  split <;> simp

/-- Insert of a word. -/
theorem Tr.insert {w : World} {tb : Nat} {F : Nat → Prop} {ps S : List (List UInt8)} (h : Tr w tb F ps (memb S) (cnt S)) (hi : SInv ps S) (s : ByteArray) (hk : ps.length + s.size + 1 ≤ 1000000000) (hSl : S.length + 1 ≤ 1000000000) (hv : validB s.data.toList = true) :
    Calls Yatv.prog 14 #[.pointer (some ⟨tb,0,none⟩), .string s] w fun e w' => e = .returned (.int .i64 (if s.data.toList ∈ S then 1 else 0)) ∧ ∃ F', Tr w' tb F' (insP ps S s.data.toList) (memb (insS S s.data.toList)) (cnt (insS S s.data.toList)) ∧ Moved F F' w w' := by
  by_cases hs : s.data.toList ∈ S
  · simp only [insP, insS, if_pos hs]
    exact (insert_there h hi (by omega) s (by omega) hv (by simp [memb, hs])).mono fun e w' ⟨h1, h2⟩ => ⟨h1, F, by rw [h2]; exact ⟨h, Moved.refl _ _⟩⟩
  · simp only [insP, insS, if_neg hs]
    have := insert_new h hi s hk hSl hv (by simp [memb, hs])
    rw [memb_snoc, cnt_snoc] at this
    exact this

/-- Remove, of whatever string. -/
theorem Tr.remove {w : World} {tb : Nat} {F : Nat → Prop} {ps S : List (List UInt8)} (h : Tr w tb F ps (memb S) (cnt S)) (hi : SInv ps S) (s : ByteArray) (hk : ps.length ≤ 1000000000) (hs : s.size ≤ 1000000000) (hSl : S.length ≤ 1000000000) :
    Calls Yatv.prog 12 #[.pointer (some ⟨tb,0,none⟩), .string s] w fun e w' => e = .returned (.bool (memb S s.data.toList)) ∧ ∃ F', Tr w' tb F' ps (memb (S.erase s.data.toList)) (cnt (S.erase s.data.toList)) ∧ Moved F F' w w' := by
  by_cases hm : s.data.toList ∈ S
  · have hb : memb S s.data.toList = true := by simp [memb, hm]
    rw [hb]
    exact (remove_yes h hi s hk hs hSl hb).mono fun e w' ⟨h1, h2, h3⟩ => ⟨h1, F, h2, h3⟩
  · have hb : memb S s.data.toList = false := by simp [memb, hm]
    rw [hb, List.erase_of_not_mem hm]
    exact (remove_no h hi hk s hs hb).mono fun e w' ⟨h1, h2⟩ => ⟨h1, F, by rw [h2]; exact ⟨h, Moved.refl _ _⟩⟩

theorem Tr.lt {w : World} {tb : Nat} {F : Nat → Prop} {ps : List (List UInt8)} {f : List UInt8 → Bool} {g : List UInt8 → Nat} (h : Tr w tb F ps f g) {b : Nat} (hb : F b) : b < w.heap.size := by
  obtain ⟨v0, v1, v2, rfl, hT⟩ := h
  exact hT.foot_lt hb

theorem Tr.kept {w w' : World} {tb : Nat} {F G : Nat → Prop} {ps : List (List UInt8)} {f : List UInt8 → Bool} {g : List UInt8 → Nat} (h : Tr w tb F ps f g) (hk : Kept G w w') (hd : ∀ b, F b → ¬ G b) : Tr w' tb F ps f g := by
  obtain ⟨v0, v1, v2, rfl, hT⟩ := h
  exact ⟨v0, v1, v2, rfl, hT.kept hk hd⟩

/-- The empty trie, as '&Trie{}' lays it. -/
theorem Tr.new (w : World) : Tr (w.alloc (.cells #[.slice none 0 0, .slice none 0 0, .slice none 0 0] 30)) w.heap.size (fun b => b = w.heap.size) [] (memb []) (cnt []) := by
  refine ⟨.slice none 0 0, .slice none 0 0, .slice none 0 0, ?_, ⟨heap_alloc_new w _, Row.nil _ _ _ _, Row.nil _ _ _ _, Row.nil _ _ _ _, by simp [Value.ownBlock], by simp [Value.ownBlock], by simp [Value.ownBlock], by simp [Value.ownBlock], by simp [Value.ownBlock], by simp [Value.ownBlock]⟩⟩
  funext b
  simp [foot, Value.ownBlock]

/-- The law's state: the trie in block tb holds the set S; the model slice v holds M; they lie apart, in memory made since w0. -/
structure StF (F : Nat → Prop) (w0 wr : World) (tb : Nat) (v : Value) (ps S M : List (List UInt8)) : Prop where
  tr : Tr wr tb F ps (memb S) (cnt S)
  inv : SInv ps S
  sr : SR wr v M
  apart : ∀ g, v.ownBlock = some g → ¬ F g
  below : Below w0.heap.size w0 wr
  newF : ∀ b, F b → w0.heap.size ≤ b
  newV : Own w0.heap.size v

def St (w0 wr : World) (tb : Nat) (v : Value) (ps S M : List (List UInt8)) : Prop := ∃ F, StF F w0 wr tb v ps S M

section
variable {w0 wr w' : World} {tb : Nat} {v v' : Value} {ps S M M' : List (List UInt8)}

/-- The trie has turned. -/
theorem StF.moved {F F' : Nat → Prop} {ps' S' : List (List UInt8)} (h : StF F w0 wr tb v ps S M) (hT : Tr w' tb F' ps' (memb S') (cnt S')) (hi : SInv ps' S') (hM : Moved F F' wr w') : StF F' w0 w' tb v ps' S' M :=
  ⟨hT, hi, Row.kept h.sr hM.kept (fun g hg => h.apart g hg), fun g hg hF' => by
      rcases hM.sub g hF' with e | e
      · exact h.apart g hg e
      · have := Row.lt h.sr hg; omega,
    h.below.trans (hM.kept.below h.below.size (fun x hx hF => by have := h.newF x hF; omega)), fun b hb => by
      rcases hM.sub b hb with e | e
      · exact h.newF b e
      · have := h.below.size; omega,
    h.newV⟩

theorem St.insert (h : St w0 wr tb v ps S M) (s : ByteArray) (hk : ps.length + s.size + 1 ≤ 1000000000) (hSl : S.length + 1 ≤ 1000000000) (hv : validB s.data.toList = true) :
    Calls Yatv.prog 14 #[.pointer (some ⟨tb,0,none⟩), .string s] wr fun e w' => e = .returned (.int .i64 (if s.data.toList ∈ S then 1 else 0)) ∧ St w0 w' tb v (insP ps S s.data.toList) (insS S s.data.toList) M := by
  obtain ⟨F, h⟩ := h
  exact (h.tr.insert h.inv s hk hSl hv).mono fun e w' ⟨h1, F', h2, h3⟩ => ⟨h1, F', h.moved h2 (h.inv.ins hv) h3⟩

theorem St.remove (h : St w0 wr tb v ps S M) (s : ByteArray) (hk : ps.length ≤ 1000000000) (hs : s.size ≤ 1000000000) (hSl : S.length ≤ 1000000000) :
    Calls Yatv.prog 12 #[.pointer (some ⟨tb,0,none⟩), .string s] wr fun e w' => e = .returned (.bool (memb S s.data.toList)) ∧ St w0 w' tb v ps (S.erase s.data.toList) M := by
  obtain ⟨F, h⟩ := h
  exact (h.tr.remove h.inv s hk hs hSl).mono fun e w' ⟨h1, F', h2, h3⟩ => ⟨h1, F', h.moved h2 (h.inv.rem _) h3⟩

theorem St.has (h : St w0 wr tb v ps S M) (s : ByteArray) (hk : ps.length ≤ 1000000000) (hs : s.size ≤ 1000000000) :
    Calls Yatv.prog 19 #[.pointer (some ⟨tb,0,none⟩), .string s] wr fun e w' => e = .returned (.bool (memb S s.data.toList)) ∧ w' = wr := by
  obtain ⟨F, h⟩ := h
  exact h.tr.has h.inv hk s hs _ rfl

/-- The model has turned: it was written in its own block, or moved into new memory. -/
theorem StF.model {F : Nat → Prop} (h : StF F w0 wr tb v ps S M) (hk : Kept (fun b => v.ownBlock = some b) wr w') (hr : SR w' v' M') (hat : ∀ g, v'.ownBlock = some g → v.ownBlock = some g ∨ wr.heap.size ≤ g) : StF F w0 w' tb v' ps S M' :=
  ⟨h.tr.kept hk (fun b hb e => h.apart b e hb), h.inv, hr, fun g hg hF => by
      rcases hat g hg with e | e
      · exact h.apart g e hF
      · have := h.tr.lt hF; omega,
    h.below.trans (hk.below h.below.size (fun x hx e => by have := h.newV x e; omega)), h.newF, fun g hg => by
      rcases hat g hg with e | e
      · exact h.newV g e
      · have := h.below.size; omega⟩

theorem St.model (h : St w0 wr tb v ps S M) (hk : Kept (fun b => v.ownBlock = some b) wr w') (hr : SR w' v' M') (hat : ∀ g, v'.ownBlock = some g → v.ownBlock = some g ∨ wr.heap.size ≤ g) : St w0 w' tb v' ps S M' := by
  obtain ⟨F, h⟩ := h
  exact ⟨F, h.model hk hr hat⟩

/-- New memory alone. -/
theorem St.later (h : St w0 wr tb v ps S M) (hb : Below wr.heap.size wr w') : St w0 w' tb v ps S M := by
  obtain ⟨F, h⟩ := h
  exact ⟨F, h.model (Kept.of_below hb) (Row.kept h.sr (Kept.of_below (F := fun _ => False) hb) (fun g _ e => e)) (fun g hg => .inl hg)⟩

/-- A new model in new memory. -/
theorem St.remodel (h : St w0 wr tb v ps S M) (hb : Below wr.heap.size wr w') (hr : SR w' v' M') (ho : Own wr.heap.size v') : St w0 w' tb v' ps S M' :=
  h.model (Kept.of_below hb) hr (fun g hg => .inr (ho g hg))

theorem St.below (h : St w0 wr tb v ps S M) : Below w0.heap.size w0 wr := by obtain ⟨F, h⟩ := h; exact h.below
theorem St.inv (h : St w0 wr tb v ps S M) : SInv ps S := by obtain ⟨F, h⟩ := h; exact h.inv
theorem St.sr (h : St w0 wr tb v ps S M) : SR wr v M := by obtain ⟨F, h⟩ := h; exact h.sr

/-- '&Trie{}', '[]string{}'. -/
theorem St.new (w : World) : St w ((w.alloc (.cells #[.slice none 0 0, .slice none 0 0, .slice none 0 0] 30)).alloc (.cells #[] 9)) w.heap.size (.slice (some ⟨w.heap.size + 1, 0, none⟩) 0 0) [] [] [] := by
  refine ⟨fun b => b = w.heap.size, ⟨?_, SInv.nil, ?_, ?_, ?_, ?_, ?_⟩⟩
  · exact (Tr.new w).kept ((Kept.refl (fun _ => False) _).alloc _) (fun _ _ e => e)
  · have := SR.empty (w.alloc (.cells #[.slice none 0 0, .slice none 0 0, .slice none 0 0] 30))
    rw [World.size_alloc] at this
    exact this
  · intro g hg; simp [own_slice] at hg; omega
  · exact ((Below.refl _ _).alloc (Nat.le_refl _) _).alloc (by simp) _
  · intro b hb; omega
  · intro g hg; simp [own_slice] at hg; omega
end

theorem T.later {w w' : World} {tb k : Nat} {v0 v1 v2 : Value} {N : Nat → Nat → Int} {W : Nat → Bool} {B : Nat → Int} (h : T w tb v0 v1 v2 k N W B) (hb : Below w.heap.size w w') : T w' tb v0 v1 v2 k N W B :=
  h.kept (Kept.of_below (F := fun _ => False) hb) (fun _ _ e => e)

theorem Row.later {w w' : World} {e : TypeId} {size : Nat} {v : Value} {n : Nat} {f : Nat → Value} (h : Row w e size v n f) (hb : Below w.heap.size w w') : Row w' e size v n f :=
  h.kept (Kept.of_below (F := fun _ => False) hb) (fun _ _ e => e)

theorem St.cells {w0 wr : World} {tb : Nat} {v : Value} {ps S M : List (List UInt8)} (h : St w0 wr tb v ps S M) : ∃ v0 v1 v2, T wr tb v0 v1 v2 ps.length (nxt ps) (wx ps (memb S)) (bx ps (cnt S)) := by
  obtain ⟨F, h⟩ := h
  obtain ⟨v0, v1, v2, _, hT⟩ := h.tr
  exact ⟨v0, v1, v2, hT⟩

end Go.Proofs.Ymwhat
