import Derived.Test.YmwhatProg
import Derived.WalkKit
import Derived.WalkSpells
import Derived.WalkLawsBesides
import Derived.Deep.AppendLies
set_option linter.unusedVariables false
set_option linter.unusedSimpArgs false
namespace Go.Proofs.Ymwhat
open Go.RowKit

/-- Blocks in F may have turned, new blocks may have come; all else is as it was. -/
structure Kept (F : Nat → Prop) (w w' : World) : Prop where
  os : w'.os = w.os
  tape : w'.tape = w.tape
  output : w'.output = w.output
  size : w.heap.size ≤ w'.heap.size
  block : ∀ b, b < w.heap.size → ¬ F b → w'.heap[b]? = w.heap[b]?

theorem hid {p : Prop} (h : p) : Hid p := h

theorem Kept.refl (F : Nat → Prop) (w : World) : Kept F w w := ⟨rfl, rfl, rfl, Nat.le_refl _, fun _ _ _ => rfl⟩

theorem Kept.trans' {F G : Nat → Prop} {a b c : World} (h : Kept F a b) (k : Kept G b c) (hG : ∀ x, x < a.heap.size → G x → F x) : Kept F a c :=
  ⟨k.os.trans h.os, k.tape.trans h.tape, k.output.trans h.output, Nat.le_trans h.size k.size, fun x hx hF =>
    (k.block x (Nat.lt_of_lt_of_le hx h.size) (fun g => hF (hG x hx g))).trans (h.block x hx hF)⟩

theorem Kept.trans {F : Nat → Prop} {a b c : World} (h : Kept F a b) (k : Kept F b c) : Kept F a c := h.trans' k (fun _ _ g => g)

theorem Kept.mono {F G : Nat → Prop} {a b : World} (h : Kept F a b) (hG : ∀ x, x < a.heap.size → F x → G x) : Kept G a b :=
  ⟨h.os, h.tape, h.output, h.size, fun x hx hF => h.block x hx (fun g => hF (hG x hx g))⟩

theorem Kept.drew {F : Nat → Prop} {a b : World} (h : Kept F a b) : Kept F a b.drew := ⟨h.os, h.tape, h.output, h.size, h.block⟩

theorem Kept.alloc {F : Nat → Prop} {a b : World} (h : Kept F a b) (o : Obj) : Kept F a (b.alloc o) :=
  h.trans ⟨rfl, rfl, rfl, by simp, fun x hx _ => Below.heap_alloc _ _ _ hx⟩

theorem Kept.setCell {F : Nat → Prop} {a b : World} (h : Kept F a b) {p : Addr} (hp : F p.block) (u : Value) : Kept F a (b.setCell p u) :=
  h.trans ⟨rfl, rfl, rfl, by simp [World.setCell], fun x _ hF => Below.heap_setCell _ _ _ _ (fun e => hF (e ▸ hp))⟩

/-- A store into a block that has come since. -/
theorem Kept.setNew {F : Nat → Prop} {a b : World} (h : Kept F a b) {p : Addr} (hp : a.heap.size ≤ p.block) (u : Value) : Kept F a (b.setCell p u) :=
  ⟨h.os, h.tape, h.output, by simpa [World.setCell] using h.size, fun x hx hF => (Below.heap_setCell _ _ _ _ (by omega)).trans (h.block x hx hF)⟩

theorem Kept.grown {F : Nat → Prop} {a b c : World} {row : Option Nat} (h : Kept F a b) (hg : b.grownBy c row) (hr : ∀ k, row = some k → k < a.heap.size → F k) : Kept F a c :=
  ⟨hg.os.trans h.os, hg.tape.trans h.tape, hg.output.trans h.output, Nat.le_trans h.size hg.size, fun x hx hF =>
    (hg.block x (Nat.lt_of_lt_of_le hx h.size) (fun e => hF (hr x e.symm hx))).trans (h.block x hx hF)⟩

theorem Kept.below {F : Nat → Prop} {a b : World} (h : Kept F a b) {B : Nat} (hB : B ≤ a.heap.size) (hF : ∀ x, x < B → ¬ F x) : Below B a b :=
  ⟨h.os, h.tape, h.output, h.size, fun k hk => h.block k (by omega) (hF k hk)⟩

theorem Kept.cell {F : Nat → Prop} {a b : World} (h : Kept F a b) {p : Addr} {v : Value} (hc : a.cell? p = some v) (hp : ¬ F p.block) : b.cell? p = some v :=
  (World.cell?_of_block (h.block _ (World.block_lt_of_cell? _ _ hc) hp)).trans hc

theorem Kept.of_below {F : Nat → Prop} {a b : World} (h : Below a.heap.size a b) : Kept F a b :=
  ⟨h.os, h.tape, h.output, h.size, fun x hx _ => h.block x hx⟩

/-- F: the blocks that a structure lay in; F': those that it lies in now: none but F's own and new ones. -/
structure Moved (F F' : Nat → Prop) (w w' : World) : Prop where
  kept : Kept F w w'
  sub : ∀ b, F' b → F b ∨ w.heap.size ≤ b

theorem Moved.refl (F : Nat → Prop) (w : World) : Moved F F w w := ⟨Kept.refl _ _, fun _ h => .inl h⟩

theorem Moved.trans {F G H : Nat → Prop} {a b c : World} (h : Moved F G a b) (k : Moved G H b c) : Moved F H a c :=
  ⟨h.kept.trans' k.kept (fun x hx g => (h.sub x g).resolve_right (by omega)), fun x hx => by
    rcases k.sub x hx with g | g
    · exact h.sub x g
    · exact .inr (Nat.le_trans h.kept.size g)⟩

theorem Moved.alloc {F G : Nat → Prop} {a b : World} (h : Moved F G a b) (o : Obj) : Moved F G a (b.alloc o) := ⟨h.kept.alloc o, h.sub⟩
theorem Moved.drew {F G : Nat → Prop} {a b : World} (h : Moved F G a b) : Moved F G a b.drew := ⟨h.kept.drew, h.sub⟩

theorem Moved.setCell {F G : Nat → Prop} {a b : World} (h : Moved F G a b) {p : Addr} (hp : G p.block) (u : Value) : Moved F G a (b.setCell p u) :=
  h.trans ⟨(Kept.refl _ _).setCell hp u, fun _ g => .inl g⟩

theorem Moved.store {F G : Nat → Prop} {a b : World} (h : Moved F G a b) {g n : Nat} {u : Value} (hp : G g) : Moved F G a (b.setCell ⟨g, n, none⟩ u) := h.setCell (p := ⟨g, n, none⟩) hp u

/-- What lay apart from F lies apart from F'. -/
theorem Moved.apart {F G M : Nat → Prop} {a b : World} (h : Moved F G a b) (hM : ∀ x, M x → x < a.heap.size) (hd : ∀ x, M x → ¬ F x) : ∀ x, M x → ¬ G x := fun x hx g => by
  rcases h.sub x g with e | e
  · exact hd x hx e
  · have := hM x hx; omega

/-- A slice of the call's own: nil, or from the head of a block; the content by the cell's index. -/
def Row (w : World) (e : TypeId) (size : Nat) (v : Value) (n : Nat) (f : Nat → Value) : Prop :=
  (v = .slice none 0 0 ∧ n = 0) ∨
  ∃ g cap cur, v = .slice (some ⟨g, 0, none⟩) n cap ∧ w.heap[g]? = some (.cells cur e (0, 0)) ∧ n ≤ cap ∧ cap ≤ maxLen ∧ cur.size = cap * size ∧ ∀ i, i < n * size → cur[i]? = some (f i)

theorem Row.owns {w : World} {e : TypeId} {size : Nat} {v : Value} {n : Nat} {f : Nat → Value} (h : Row w e size v n f) : w.ownsRow 0 e size v n ((List.range (n * size)).map f) := by
  refine ⟨by simp, ?_⟩
  rcases h with ⟨rfl, rfl⟩ | ⟨g, cap, cur, rfl, hg, hn, hc, hs, hf⟩
  · exact .inl ⟨rfl, rfl⟩
  · refine .inr ⟨g, cap, cur, rfl, Nat.zero_le _, hg, hn, hc, hs, ?_⟩
    apply List.ext_getElem?
    intro i
    rw [List.getElem?_take]
    by_cases hi : i < n * size
    · rw [if_pos hi]
      simp [hi, hf i hi]
    · rw [if_neg hi]
      simp [hi]

theorem Row.of_owns {w : World} {b : Nat} {e : TypeId} {size : Nat} {v : Value} {n : Nat} {xs : List Value} {f : Nat → Value} (h : w.ownsRow b e size v n xs) (hf : ∀ i, i < n * size → xs[i]? = some (f i)) : Row w e size v n f := by
  obtain ⟨hl, h⟩ := h
  rcases h with ⟨rfl, rfl⟩ | ⟨g, cap, cur, rfl, _, hg, hn, hc, hs, ht⟩
  · exact .inl ⟨rfl, rfl⟩
  · refine .inr ⟨g, cap, cur, rfl, hg, hn, hc, hs, fun i hi => ?_⟩
    have := hf i hi
    rw [← ht, List.getElem?_take, if_pos hi] at this
    simpa using this

theorem Row.of_block {w w' : World} {e : TypeId} {size : Nat} {v : Value} {n : Nat} {f : Nat → Value} (h : Row w e size v n f) (hb : ∀ g, v.ownBlock = some g → g < w.heap.size → w'.heap[g]? = w.heap[g]?) : Row w' e size v n f := by
  rcases h with h | ⟨g, cap, cur, rfl, hg, r⟩
  · exact .inl h
  · exact .inr ⟨g, cap, cur, rfl, by rw [hb g rfl (Array.getElem?_eq_some_iff.1 hg).1]; exact hg, r⟩

theorem Row.kept {F : Nat → Prop} {w w' : World} {e : TypeId} {size : Nat} {v : Value} {n : Nat} {f : Nat → Value} (h : Row w e size v n f) (k : Kept F w w') (hb : ∀ g, v.ownBlock = some g → ¬ F g) : Row w' e size v n f :=
  h.of_block (fun g hg hlt => k.block g hlt (hb g hg))

theorem Row.alloc {w : World} {e : TypeId} {size : Nat} {v : Value} {n : Nat} {f : Nat → Value} (h : Row w e size v n f) (o : Obj) : Row (w.alloc o) e size v n f :=
  h.of_block (fun g _ hlt => Below.heap_alloc _ _ _ hlt)

theorem Row.setOther {w : World} {e : TypeId} {size : Nat} {v : Value} {n : Nat} {f : Nat → Value} (h : Row w e size v n f) {p : Addr} (hp : v.ownBlock ≠ some p.block) (u : Value) : Row (w.setCell p u) e size v n f :=
  h.of_block (fun g hg _ => Below.heap_setCell _ _ _ _ (fun e => hp (by rw [hg, e])))

theorem Row.drew {w : World} {e : TypeId} {size : Nat} {v : Value} {n : Nat} {f : Nat → Value} (h : Row w e size v n f) : Row w.drew e size v n f := h

theorem Row.congr {w : World} {e : TypeId} {size : Nat} {v : Value} {n : Nat} {f g : Nat → Value} (h : Row w e size v n f) (hfg : ∀ i, i < n * size → f i = g i) : Row w e size v n g := by
  rcases h with h | ⟨b, cap, cur, hv, hg, hn, hc, hs, hf⟩
  · exact .inl h
  · exact .inr ⟨b, cap, cur, hv, hg, hn, hc, hs, fun i hi => by rw [hf i hi, hfg i hi]⟩

theorem Row.lt {w : World} {e : TypeId} {size : Nat} {v : Value} {n : Nat} {f : Nat → Value} (h : Row w e size v n f) {g : Nat} (hv : v.ownBlock = some g) : g < w.heap.size := by
  rcases h with ⟨rfl, _⟩ | ⟨b, cap, cur, rfl, hg, _⟩
  · simp [Value.ownBlock] at hv
  · simp [Value.ownBlock] at hv
    subst hv
    exact (Array.getElem?_eq_some_iff.1 hg).1

theorem Row.form {w : World} {e : TypeId} {size : Nat} {v : Value} {n : Nat} {f : Nat → Value} (h : Row w e size v n f) : ∃ ao cap, v = .slice ao n cap ∧ (0 < n → ∃ g, ao = some ⟨g, 0, none⟩) ∧ n ≤ cap ∧ cap ≤ maxLen := by
  rcases h with ⟨rfl, rfl⟩ | ⟨b, cap, cur, rfl, hg, hn, hc, _⟩
  · exact ⟨none, 0, rfl, fun h => absurd h (Nat.lt_irrefl _), Nat.le_refl _, Nat.zero_le _⟩
  · exact ⟨_, _, rfl, fun _ => ⟨b, rfl⟩, hn, hc⟩

/-- At least one element: the value written out. -/
theorem Row.pos {w : World} {e : TypeId} {size : Nat} {v : Value} {n : Nat} {f : Nat → Value} (h : Row w e size v n f) (hn : 0 < n) : ∃ g cap, v = .slice (some ⟨g, 0, none⟩) n cap ∧ n ≤ cap ∧ cap ≤ maxLen := by
  rcases h with ⟨rfl, rfl⟩ | ⟨b, cap, cur, rfl, hg, hn, hc, _⟩
  · omega
  · exact ⟨_, _, rfl, hn, hc⟩

theorem Row.cell {w : World} {e : TypeId} {size g n m cap : Nat} {f : Nat → Value} (h : Row w e size (.slice (some ⟨g, 0, none⟩) m cap) n f) {i : Nat} (hi : i < n * size) : w.cell? ⟨g, i, none⟩ = some (f i) := by
  rcases h with ⟨h, _⟩ | ⟨b, cap', cur, h, hg, hn, hc, hs, hf⟩
  · simp at h
  · simp at h
    obtain ⟨rfl, _⟩ := h
    simp [World.cell?, hg, hf i hi]

theorem Row.frozen {w : World} {e : TypeId} {size g n m cap : Nat} {f : Nat → Value} (h : Row w e size (.slice (some ⟨g, 0, none⟩) m cap) n f) (i : Nat) : w.frozen? ⟨g, i, none⟩ = false := by
  rcases h with ⟨h, _⟩ | ⟨b, cap', cur, h, hg, hn, hc, hs, hf⟩
  · simp at h
  · simp at h
    obtain ⟨rfl, _⟩ := h
    simp [World.frozen?, hg]

theorem Row.set {w : World} {e : TypeId} {size g n m cap : Nat} {f : Nat → Value} (h : Row w e size (.slice (some ⟨g, 0, none⟩) m cap) n f) (i : Nat) (u : Value) :
    Row (w.setCell ⟨g, i, none⟩ u) e size (.slice (some ⟨g, 0, none⟩) m cap) n (fun j => if j = i then u else f j) := by
  rcases h with ⟨h, _⟩ | ⟨b, cap', cur, h, hg, hn, hc, hs, hf⟩
  · simp at h
  · simp at h
    obtain ⟨rfl, rfl, rfl⟩ := h
    refine .inr ⟨g, cap, cur.setIfInBounds i u, rfl, ?_, hn, hc, by simpa using hs, fun j hj => ?_⟩
    · simp [World.setCell, Array.getElem?_modify, hg]
    · rw [Array.getElem?_setIfInBounds]
      have hlt : j < cur.size := by
        have := hf j hj
        exact (Array.getElem?_eq_some_iff.1 this).1
      by_cases e : i = j
      · subst e; simp [hlt]
      · rw [if_neg e]
        have e' : ¬ j = i := fun h => e h.symm
        simp only [if_neg e']
        exact hf j hj

theorem Row.nil (w : World) (e : TypeId) (size : Nat) (f : Nat → Value) : Row w e size (.slice none 0 0) 0 f := .inl ⟨rfl, rfl⟩

/-- A fresh, full row. -/
theorem Row.new (w : World) (e : TypeId) (size n : Nat) (cs : Array Value) (f : Nat → Value) (hn : n ≤ maxLen) (hs : cs.size = n * size) (hf : ∀ i, i < n * size → cs[i]? = some (f i)) :
    Row (w.alloc (.cells cs e)) e size (.slice (some ⟨w.heap.size, 0, none⟩) n n) n f :=
  .inr ⟨w.heap.size, n, cs, rfl, heap_alloc_new w _, Nat.le_refl _, hn, hs, hf⟩

end Go.Proofs.Ymwhat
