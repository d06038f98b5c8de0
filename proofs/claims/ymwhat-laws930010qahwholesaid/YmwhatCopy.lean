import Derived.Test.YmwhatDel
set_option linter.unusedVariables false
set_option linter.unusedSimpArgs false
namespace Go.Proofs.Ymwhat
open Go.RowKit

/-- 'append(e, v...)', e an own slice without elements (nil or not), v whatever own slice: a copy. B: where own memory begins. -/
theorem wpList_append_all {P : Program} {w : World} {ops : Array Oper} {rest : List Oper} {o : Oper} {a : Act} {Q : Exit → Act → World → Prop} (hgd : o.guard = none) (s x : Operand) (t : TypeId)
    (ho : o.op = .call { callee := .builtin .append, args := #[s, x], argTypes := #[t, t] })
    (e : TypeId) (z : Value) (size bytes : Nat) (ht : P.underlying t = some (.slice e)) (hi : (P.info? e).map (fun i => (i.zero, i.size, i.bytes)) = some (some z, size, bytes)) (hzs : z.cells.size = size) (hsz : 0 < size)
    (B : Nat) (v0 : Value) (hs : a.eval s = v0) (hown : w.ownsRow B e size v0 0 []) (hB : B ≤ w.heap.size)
    (v : Value) (n : Nat) (f : Nat → Value) (hx : a.eval x = v) (hr : Row w e size v n f) (h1 : ∀ j, (f j).oneCell' = true) (h63 : n ≤ maxLen) (hbytes : n * bytes ≤ 140737488355328)
    (h : ∀ v' w', Row w' e size v' n f → Below B w w' → Own B v' → wpList P ops Q rest (a.put o.dst v') w') : wpList P ops Q (o :: rest) a w := by
  obtain ⟨i, hi0, hz0, hz1, hz2⟩ := info_parts hi
  rcases hr with ⟨rfl, rfl⟩ | ⟨g, cap, cur, rfl, r⟩
  · refine wpList_plain hgd fun K hK => ?_
    have hrun := run_append_owned_none (P := P) (w := w) B t o.type e i size ht hi0 v0 0 [] hown
    unfold Oper.wp
    simp [execOp, ho, resolve, invoke, builtin, hs, hx, hrun, Result.andThen]
    exact hK _ _ (h v0 w (Row.of_owns hown (fun i hi => absurd hi (by omega))) (Below.refl _ _) (Own.of_owns hown))
  · have hr : Row w e size (.slice (some ⟨g, 0, none⟩) n cap) n f := .inr ⟨g, cap, cur, rfl, r⟩
    refine wpList_append_own w hgd s x t ho B e i z size bytes ht hi0 hz0 hz1 hz2 hzs hsz v0 0 [] hs hown ⟨g, 0, none⟩ n cap _ hx (by simp) (news_row hr) ?_ (by omega) (by rw [Nat.zero_add]; exact hbytes) hB ?_
    · intro u hu
      obtain ⟨j, _, rfl⟩ := List.mem_map.1 hu
      exact h1 j
    · intro v' w' hown' hgrow _
      rw [Nat.zero_add, List.nil_append] at hown'
      exact h v' w' (Row.of_owns hown' (fun i hi => by rw [List.getElem?_map, List.getElem?_range hi]; rfl)) ((Below.refl _ _).grown hgrow hB (fun k hk => (hown.lt k hk).1)) (Own.of_owns hown')

theorem length_le_of_sub : ∀ {l ps : List (List UInt8)}, l.Nodup → (∀ x ∈ l, x ∈ ps) → l.length ≤ ps.length
  | [], _, _, _ => Nat.zero_le _
  | a :: r, ps, hn, hs => by
    rw [List.nodup_cons] at hn
    have ha := hs a (by simp)
    have ih := length_le_of_sub (l := r) (ps := ps.erase a) hn.2 (fun x hx => by
      have hxa : x ≠ a := fun e => hn.1 (e ▸ hx)
      exact (List.mem_erase_of_ne hxa).2 (hs x (by simp [hx])))
    rw [List.length_erase_of_mem ha] at ih
    have := List.length_pos_of_mem ha
    simp only [List.length_cons]
    omega

/-- A path is shorter than the nodes are many. -/
theorem PInv.length_lt {ps : List (List UInt8)} (h : PInv ps) {p : List UInt8} (hp : p ∈ ps) : p.length < ps.length := by
  have := length_le_of_sub (l := (List.range (p.length + 1)).map (fun i => p.take i)) (ps := ps) (by
    rw [List.nodup_iff_pairwise_ne, List.pairwise_map]
    refine List.Pairwise.imp_of_mem (fun {a b} ha hb hab => ?_) List.nodup_range
    intro e
    have := congrArg List.length e
    simp at ha hb this
    omega) (fun x hx => by
    obtain ⟨i, _, rfl⟩ := List.mem_map.1 hx
    exact h.prefixes (List.take_prefix _ _) hp)
  rw [List.length_map, List.length_range] at this
  omega

/-- One word more is marked. -/
theorem wx_set {ps : List (List UInt8)} (h : PInv ps) {A : List (List UInt8)} {s : List UInt8} (hs : s ∈ ps) (n : Nat) (hn : n < ps.length) : (if n = ps.idxOf s then true else wx ps (memb A) n) = wx ps (memb (A ++ [s])) n := by
  have hq := List.getElem?_eq_getElem hn
  generalize ps[n] = q at hq
  rw [wx_some hq, wx_some hq]
  have hidx := h.idx_eq hq
  by_cases e : q = s
  · subst e; rw [if_pos hidx.symm]; simp [memb]
  · rw [if_neg]
    · simp [memb, e]
    · intro e2
      apply e
      rw [e2, getElem?_idxOf hs] at hq
      exact (Option.some.inj hq).symm

theorem cntTo_full (A : List (List UInt8)) (s : List UInt8) : cntTo A s s.length = cnt (A ++ [s]) := by
  funext p
  rw [← cnt_snoc]
  simp only [cntTo, cnt, List.countP_cons, List.take_length]

theorem wx_nil (ps : List (List UInt8)) (n : Nat) : wx ps (memb []) n = false := by
  unfold wx; split <;> simp [memb]
theorem bx_nil (ps : List (List UInt8)) (n : Nat) : bx ps (cnt []) n = 0 := by
  unfold bx; split <;> simp [cnt]

/-- The arrays that the law counts into: blocks B, B + 1; A: the words that are marked; f: what is counted. -/
structure Ex (w2 wr : World) (B nb : Nat) (ps A : List (List UInt8)) (f : List UInt8 → Nat) : Prop where
  below : Below w2.heap.size w2 wr
  rw_ : Row wr 4 1 (.slice (some ⟨B, 0, none⟩) nb nb) nb (fun i => .bool (wx ps (memb A) i))
  rb : Row wr 3 1 (.slice (some ⟨B + 1, 0, none⟩) nb nb) nb (fun i => .int .i64 (bx ps f i))

section
variable {w2 wr : World} {B : Nat} {ps A : List (List UInt8)} {f : List UInt8 → Nat}

theorem Ex.drewN (h : Ex w2 wr B ps.length ps A f) (n : Nat) : Ex w2 (wr.drewN n) B ps.length ps A f :=
  ⟨⟨h.below.os, h.below.tape, h.below.output, h.below.size, h.below.block⟩, h.rw_, h.rb⟩

theorem Ex.count {f' : List UInt8 → Nat} {p : List UInt8} (h : Ex w2 wr B ps.length ps A f) (hB : w2.heap.size ≤ B) (hp : PInv ps) (hm : p ∈ ps) (hf : ∀ q, f' q = if q = p then f q + 1 else f q) :
    Ex w2 (wr.setCell ⟨B + 1, ps.idxOf p, none⟩ (.int .i64 (bx ps f (ps.idxOf p) + 1))) B ps.length ps A f' := by
  refine ⟨h.below.setCell (p := ⟨B + 1, ps.idxOf p, none⟩) (by show w2.heap.size ≤ B + 1; omega) _, h.rw_.setOther (by simp [own_slice]) _, (h.rb.set _ _).congr (fun i hi => ?_)⟩
  have := bx_set hp hm hf i (by omega)
  rw [← this]
  by_cases e : i = ps.idxOf p <;> simp [e]

theorem Ex.mark {s : List UInt8} (h : Ex w2 wr B ps.length ps A (cntTo A s s.length)) (hB : w2.heap.size ≤ B) (hp : PInv ps) (hm : s ∈ ps) :
    Ex w2 (wr.setCell ⟨B, ps.idxOf s, none⟩ (.bool true)) B ps.length ps (A ++ [s]) (cnt (A ++ [s])) := by
  refine ⟨h.below.setCell (p := ⟨B, ps.idxOf s, none⟩) hB _, (h.rw_.set _ _).congr (fun i hi => ?_), ?_⟩
  · rw [← wx_set hp hm i (by omega)]
    by_cases e : i = ps.idxOf s <;> simp [e]
  · rw [← cntTo_full]
    exact h.rb.setOther (by simp [own_slice]) _

theorem Ex.new (w2 : World) (ps : List (List UInt8)) (hn : ps.length ≤ 1000000000) : Ex w2 ((w2.alloc (.cells (madeCells #[.bool false] ps.length) 4)).alloc (.cells (madeCells #[.int .i64 0] ps.length) 3)) w2.heap.size ps.length ps [] (cnt []) := by
  refine ⟨((Below.refl _ _).alloc (Nat.le_refl _) _).alloc (by simp) _, ?_, ?_⟩
  · refine Row.alloc ?_ _
    exact Row.new w2 4 1 ps.length _ _ (by unfold maxLen; omega) (by simp [size_madeCells]) (fun i hi => by have hi' : i < ps.length := (by omega); simp [madeCells, Nat.mod_one, hi', wx_nil])
  · have := Row.new (w2.alloc (.cells (madeCells #[.bool false] ps.length) 4)) 3 1 ps.length (madeCells #[.int .i64 0] ps.length) (fun i => .int .i64 (bx ps (cnt []) i)) (by unfold maxLen; omega) (by simp [size_madeCells]) (fun i hi => by have hi' : i < ps.length := (by omega); simp [madeCells, Nat.mod_one, hi', bx_nil])
    rw [World.size_alloc] at this
    exact this
end

theorem StF.later {F : Nat → Prop} {w0 wr w' : World} {tb : Nat} {v : Value} {ps S M : List (List UInt8)} (h : StF F w0 wr tb v ps S M) (hb : Below wr.heap.size wr w') : StF F w0 w' tb v ps S M :=
  h.model (Kept.of_below hb) (Row.kept h.sr (Kept.of_below (F := fun _ => False) hb) (fun g _ e => e)) (fun g hg => .inl hg)

end Go.Proofs.Ymwhat
