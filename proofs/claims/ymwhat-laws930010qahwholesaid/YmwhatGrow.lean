import Derived.Test.YmwhatFind
set_option linter.unusedVariables false
set_option linter.unusedSimpArgs false
namespace Go.Proofs.Ymwhat
open Go.RowKit

/-- append onto an own row, at the list of a plain region's operations. -/
theorem wpList_append_row {P : Program} {w : World} {ops : Array Oper} {rest : List Oper} {o : Oper} {a : Act} {Q : Exit → Act → World → Prop} (hgd : o.guard = none) (s x : Operand) (t : TypeId)
    (ho : o.op = .call { callee := .builtin .append, args := #[s, x], argTypes := #[t, t] })
    (e : TypeId) (z : Value) (size bytes : Nat) (ht : P.underlying t = some (.slice e)) (hi : (P.info? e).map (fun i => (i.zero, i.size, i.bytes)) = some (some z, size, bytes)) (hzs : z.cells.size = size) (hsz : 0 < size)
    (v : Value) (n : Nat) (f : Nat → Value) (hs : a.eval s = v) (hown : Row w e size v n f)
    (ad : Addr) (m c : Nat) (hx : a.eval x = .slice (some ad) m c) (f' : Nat → Value) (hnews : ∀ j, j < m * size → w.cell? (ad.add j) = some (f' (n * size + j))) (h1 : ∀ j, (f' j).oneCell' = true)
    (hff : ∀ i, i < n * size → f' i = f i) (hm : 0 < m) (h63 : n + m ≤ maxLen) (hbytes : (n + m) * bytes ≤ 140737488355328)
    (h : ∀ g cap w', Row w' e size (.slice (some ⟨g, 0, none⟩) (n + m) cap) (n + m) f' → Kept (fun b => v.ownBlock = some b) w w' → (v.ownBlock = some g ∨ w.heap.size ≤ g) → wpList P ops Q rest (a.put o.dst (.slice (some ⟨g, 0, none⟩) (n + m) cap)) w') : wpList P ops Q (o :: rest) a w := by
  obtain ⟨i, hi0, hz0, hz1, hz2⟩ := info_parts hi
  refine wpList_append_lies w hgd s x t ho 0 e i z size bytes ht hi0 hz0 hz1 hz2 hzs hsz v n _ hs hown.owns ad m c ((List.range (m * size)).map fun j => f' (n * size + j)) hx (by simp) ?_ ?_ hm h63 hbytes (Nat.zero_le _) w.heap.size rfl ?_
  · intro j u hu
    rw [List.getElem?_map] at hu
    by_cases hj : j < m * size
    · rw [List.getElem?_range hj] at hu
      simp at hu
      rw [← hu]
      exact hnews j hj
    · rw [List.getElem?_eq_none (by simp; omega)] at hu
      simp at hu
  · intro u hu
    obtain ⟨j, _, rfl⟩ := List.mem_map.1 hu
    exact h1 _
  · intro g cap w' hown' hgrow hat hlt
    refine h g cap w' (Row.of_owns hown' ?_) ((Kept.refl _ w).grown hgrow (fun k hk _ => hk)) ?_
    · intro i hi
      rw [Nat.add_mul] at hi
      by_cases hi' : i < n * size
      · rw [List.getElem?_append_left (by simpa using hi'), List.getElem?_map, List.getElem?_range hi', hff i hi']
        rfl
      · rw [List.getElem?_append_right (by simp; omega), List.getElem?_map, List.length_map, List.length_range, List.getElem?_range (by omega)]
        simp only [Option.map_some]
        rw [show n * size + (i - n * size) = i by omega]
    · rcases hat with h | h
      · exact .inl h
      · exact .inr (by omega)

/-- The trie in memory while grow goes on: each array has its own length. -/
structure T3 (w : World) (tb : Nat) (v0 v1 v2 : Value) (k0 k1 k2 : Nat) (N : Nat → Nat → Int) (W : Nat → Bool) (B : Nat → Int) : Prop where
  tc : w.heap[tb]? = some (.cells #[v0, v1, v2] 30 (0, 0))
  r0 : Row w 38 26 v0 k0 (fun i => .int .i64 (N (i / 26) (i % 26)))
  r1 : Row w 4 1 v1 k1 (fun i => .bool (W i))
  r2 : Row w 3 1 v2 k2 (fun i => .int .i64 (B i))
  n0 : v0.ownBlock ≠ some tb
  n1 : v1.ownBlock ≠ some tb
  n2 : v2.ownBlock ≠ some tb
  n01 : ∀ g, v0.ownBlock = some g → v1.ownBlock ≠ some g
  n02 : ∀ g, v0.ownBlock = some g → v2.ownBlock ≠ some g
  n12 : ∀ g, v1.ownBlock = some g → v2.ownBlock ≠ some g

section
variable {w w1 : World} {tb k k0 k1 k2 : Nat} {v0 v1 v2 : Value} {N : Nat → Nat → Int} {W : Nat → Bool} {B : Nat → Int}

theorem T.three (h : T w tb v0 v1 v2 k N W B) : T3 w tb v0 v1 v2 k k k N W B := ⟨h.tc, h.r0, h.r1, h.r2, h.n0, h.n1, h.n2, h.n01, h.n02, h.n12⟩
theorem T3.one (h : T3 w tb v0 v1 v2 k k k N W B) : T w tb v0 v1 v2 k N W B := ⟨h.tc, h.r0, h.r1, h.r2, h.n0, h.n1, h.n2, h.n01, h.n02, h.n12⟩
theorem T3.c0 (h : T3 w tb v0 v1 v2 k0 k1 k2 N W B) : w.cell? ⟨tb, 0, none⟩ = some v0 := by simp [World.cell?, h.tc]
theorem T3.c1 (h : T3 w tb v0 v1 v2 k0 k1 k2 N W B) : w.cell? ⟨tb, 1, none⟩ = some v1 := by simp [World.cell?, h.tc]
theorem T3.c2 (h : T3 w tb v0 v1 v2 k0 k1 k2 N W B) : w.cell? ⟨tb, 2, none⟩ = some v2 := by simp [World.cell?, h.tc]
theorem T3.fr (h : T3 w tb v0 v1 v2 k0 k1 k2 N W B) (i : Nat) : w.frozen? ⟨tb, i, none⟩ = false := by simp [World.frozen?, h.tc]
theorem T3.lt (h : T3 w tb v0 v1 v2 k0 k1 k2 N W B) : tb < w.heap.size := (Array.getElem?_eq_some_iff.1 h.tc).1
theorem T3.alloc (h : T3 w tb v0 v1 v2 k0 k1 k2 N W B) (o : Obj) : T3 (w.alloc o) tb v0 v1 v2 k0 k1 k2 N W B :=
  ⟨(Below.heap_alloc _ _ _ h.lt).trans h.tc, h.r0.alloc o, h.r1.alloc o, h.r2.alloc o, h.n0, h.n1, h.n2, h.n01, h.n02, h.n12⟩

theorem heap_setCell_same {w : World} {b i : Nat} {cs : Array Value} {e : TypeId} (h : w.heap[b]? = some (.cells cs e (0, 0))) (u : Value) : (w.setCell ⟨b, i, none⟩ u).heap[b]? = some (.cells (cs.setIfInBounds i u) e (0, 0)) := by
  simp [World.setCell, Array.getElem?_modify, h]

theorem own_slice (g n cap : Nat) : (Value.slice (some ⟨g, 0, none⟩) n cap).ownBlock = some g := rfl

/-- The first array has grown; its new value is stored into the struct. -/
theorem T3.app0 (h : T3 w tb v0 v1 v2 k0 k1 k2 N W B) {g n cap : Nat} (hr : Row w1 38 26 (.slice (some ⟨g, 0, none⟩) n cap) n (fun i => .int .i64 (N (i / 26) (i % 26)))) (hk : Kept (fun b => v0.ownBlock = some b) w w1) (hat : v0.ownBlock = some g ∨ w.heap.size ≤ g) :
    (w1.cell? ⟨tb, 0, none⟩ = some v0 ∧ w1.frozen? ⟨tb, 0, none⟩ = false) ∧ T3 (w1.setCell ⟨tb, 0, none⟩ (.slice (some ⟨g, 0, none⟩) n cap)) tb (.slice (some ⟨g, 0, none⟩) n cap) v1 v2 n k1 k2 N W B ∧
      Moved (foot tb v0 v1 v2) (foot tb (.slice (some ⟨g, 0, none⟩) n cap) v1 v2) w (w1.setCell ⟨tb, 0, none⟩ (.slice (some ⟨g, 0, none⟩) n cap)) := by
  have htb : w1.heap[tb]? = some (.cells #[v0, v1, v2] 30 (0, 0)) := (hk.block tb h.lt h.n0).trans h.tc
  have hg : g ≠ tb := by rcases hat with e | e; exact fun e' => h.n0 (e' ▸ e); have := h.lt; omega
  have l1 : ∀ x, v1.ownBlock = some x → x ≠ g := fun x hx e => by
    subst e
    rcases hat with e | e
    · exact h.n01 _ e hx
    · have := h.r1.lt hx; omega
  have l2 : ∀ x, v2.ownBlock = some x → x ≠ g := fun x hx e => by
    subst e
    rcases hat with e | e
    · exact h.n02 _ e hx
    · have := h.r2.lt hx; omega
  refine ⟨⟨by simp [World.cell?, htb], by simp [World.frozen?, htb]⟩, ⟨?_, hr.setOther (by simpa [own_slice] using hg) _, (h.r1.kept hk (fun x hx e => h.n01 _ e hx)).setOther h.n1 _, (h.r2.kept hk (fun x hx e => h.n02 _ e hx)).setOther h.n2 _,
    by simpa [own_slice] using hg, h.n1, h.n2, fun x hx e => l1 x e (by simpa [own_slice] using hx.symm), fun x hx e => l2 x e (by simpa [own_slice] using hx.symm), h.n12⟩, ⟨?_, ?_⟩⟩
  · rw [heap_setCell_same htb]; rfl
  · exact (hk.mono (fun x _ hx => .inr (.inl hx))).setCell (.inl rfl) _
  · intro b hb
    rcases hb with rfl | hb | hb | hb
    · exact .inl (.inl rfl)
    · simp [own_slice] at hb
      subst hb
      rcases hat with e | e
      · exact .inl (.inr (.inl e))
      · exact .inr e
    · exact .inl (.inr (.inr (.inl hb)))
    · exact .inl (.inr (.inr (.inr hb)))

theorem T3.app1 (h : T3 w tb v0 v1 v2 k0 k1 k2 N W B) {g n cap : Nat} (hr : Row w1 4 1 (.slice (some ⟨g, 0, none⟩) n cap) n (fun i => .bool (W i))) (hk : Kept (fun b => v1.ownBlock = some b) w w1) (hat : v1.ownBlock = some g ∨ w.heap.size ≤ g) :
    (w1.cell? ⟨tb, 1, none⟩ = some v1 ∧ w1.frozen? ⟨tb, 1, none⟩ = false) ∧ T3 (w1.setCell ⟨tb, 1, none⟩ (.slice (some ⟨g, 0, none⟩) n cap)) tb v0 (.slice (some ⟨g, 0, none⟩) n cap) v2 k0 n k2 N W B ∧
      Moved (foot tb v0 v1 v2) (foot tb v0 (.slice (some ⟨g, 0, none⟩) n cap) v2) w (w1.setCell ⟨tb, 1, none⟩ (.slice (some ⟨g, 0, none⟩) n cap)) := by
  have htb : w1.heap[tb]? = some (.cells #[v0, v1, v2] 30 (0, 0)) := (hk.block tb h.lt h.n1).trans h.tc
  have hg : g ≠ tb := by rcases hat with e | e; exact fun e' => h.n1 (e' ▸ e); have := h.lt; omega
  have l0 : ∀ x, v0.ownBlock = some x → x ≠ g := fun x hx e => by
    subst e
    rcases hat with e | e
    · exact h.n01 _ hx e
    · have := h.r0.lt hx; omega
  have l2 : ∀ x, v2.ownBlock = some x → x ≠ g := fun x hx e => by
    subst e
    rcases hat with e | e
    · exact h.n12 _ e hx
    · have := h.r2.lt hx; omega
  refine ⟨⟨by simp [World.cell?, htb], by simp [World.frozen?, htb]⟩, ⟨?_, (h.r0.kept hk (fun x hx e => h.n01 _ hx e)).setOther h.n0 _, hr.setOther (by simpa [own_slice] using hg) _, (h.r2.kept hk (fun x hx e => h.n12 _ e hx)).setOther h.n2 _,
    h.n0, by simpa [own_slice] using hg, h.n2, fun x hx e => l0 x hx (by simpa [own_slice] using e.symm), h.n02, fun x hx e => l2 x e (by simpa [own_slice] using hx.symm)⟩, ⟨?_, ?_⟩⟩
  · rw [heap_setCell_same htb]; rfl
  · exact (hk.mono (fun x _ hx => .inr (.inr (.inl hx)))).setCell (.inl rfl) _
  · intro b hb
    rcases hb with rfl | hb | hb | hb
    · exact .inl (.inl rfl)
    · exact .inl (.inr (.inl hb))
    · simp [own_slice] at hb
      subst hb
      rcases hat with e | e
      · exact .inl (.inr (.inr (.inl e)))
      · exact .inr e
    · exact .inl (.inr (.inr (.inr hb)))

theorem T3.app2 (h : T3 w tb v0 v1 v2 k0 k1 k2 N W B) {g n cap : Nat} (hr : Row w1 3 1 (.slice (some ⟨g, 0, none⟩) n cap) n (fun i => .int .i64 (B i))) (hk : Kept (fun b => v2.ownBlock = some b) w w1) (hat : v2.ownBlock = some g ∨ w.heap.size ≤ g) :
    (w1.cell? ⟨tb, 2, none⟩ = some v2 ∧ w1.frozen? ⟨tb, 2, none⟩ = false) ∧ T3 (w1.setCell ⟨tb, 2, none⟩ (.slice (some ⟨g, 0, none⟩) n cap)) tb v0 v1 (.slice (some ⟨g, 0, none⟩) n cap) k0 k1 n N W B ∧
      Moved (foot tb v0 v1 v2) (foot tb v0 v1 (.slice (some ⟨g, 0, none⟩) n cap)) w (w1.setCell ⟨tb, 2, none⟩ (.slice (some ⟨g, 0, none⟩) n cap)) := by
  have htb : w1.heap[tb]? = some (.cells #[v0, v1, v2] 30 (0, 0)) := (hk.block tb h.lt h.n2).trans h.tc
  have hg : g ≠ tb := by rcases hat with e | e; exact fun e' => h.n2 (e' ▸ e); have := h.lt; omega
  have l0 : ∀ x, v0.ownBlock = some x → x ≠ g := fun x hx e => by
    subst e
    rcases hat with e | e
    · exact h.n02 _ hx e
    · have := h.r0.lt hx; omega
  have l1 : ∀ x, v1.ownBlock = some x → x ≠ g := fun x hx e => by
    subst e
    rcases hat with e | e
    · exact h.n12 _ hx e
    · have := h.r1.lt hx; omega
  refine ⟨⟨by simp [World.cell?, htb], by simp [World.frozen?, htb]⟩, ⟨?_, (h.r0.kept hk (fun x hx e => h.n02 _ hx e)).setOther h.n0 _, (h.r1.kept hk (fun x hx e => h.n12 _ hx e)).setOther h.n1 _, hr.setOther (by simpa [own_slice] using hg) _,
    h.n0, h.n1, by simpa [own_slice] using hg, h.n01, fun x hx e => l0 x hx (by simpa [own_slice] using e.symm), fun x hx e => l1 x hx (by simpa [own_slice] using e.symm)⟩, ⟨?_, ?_⟩⟩
  · rw [heap_setCell_same htb]; rfl
  · exact (hk.mono (fun x _ hx => .inr (.inr (.inr hx)))).setCell (.inl rfl) _
  · intro b hb
    rcases hb with rfl | hb | hb | hb
    · exact .inl (.inl rfl)
    · exact .inl (.inr (.inl hb))
    · exact .inl (.inr (.inr (.inl hb)))
    · simp [own_slice] at hb
      subst hb
      rcases hat with e | e
      · exact .inl (.inr (.inr (.inr e)))
      · exact .inr e
end

theorem Yatv.info38 : (Yatv.prog.info? 38).map (fun i => (i.zero, i.size, i.bytes)) = some (some (.agg (Array.replicate 26 (.int .i64 0))), 26, 208) := by kernel_rfl
theorem Yatv.info4 : (Yatv.prog.info? 4).map (fun i => (i.zero, i.size, i.bytes)) = some (some (.bool false), 1, 1) := by kernel_rfl
theorem Yatv.info3 : (Yatv.prog.info? 3).map (fun i => (i.zero, i.size, i.bytes)) = some (some (.int .i64 0), 1, 8) := by kernel_rfl

theorem zeros26 (w : World) (j : Nat) (hj : j < 26) : (w.alloc (Obj.cells #[Value.int IntKind.i64 0, Value.int IntKind.i64 0, Value.int IntKind.i64 0, Value.int IntKind.i64 0, Value.int IntKind.i64 0, Value.int IntKind.i64 0, Value.int IntKind.i64 0, Value.int IntKind.i64 0, Value.int IntKind.i64 0, Value.int IntKind.i64 0, Value.int IntKind.i64 0, Value.int IntKind.i64 0, Value.int IntKind.i64 0, Value.int IntKind.i64 0, Value.int IntKind.i64 0, Value.int IntKind.i64 0, Value.int IntKind.i64 0, Value.int IntKind.i64 0, Value.int IntKind.i64 0, Value.int IntKind.i64 0, Value.int IntKind.i64 0, Value.int IntKind.i64 0, Value.int IntKind.i64 0, Value.int IntKind.i64 0, Value.int IntKind.i64 0, Value.int IntKind.i64 0] 38)).cell? ((⟨w.heap.size, 0, none⟩ : Addr).add j) = some (.int .i64 0) := by
  have hadd : (⟨w.heap.size, 0, none⟩ : Addr).add j = ⟨w.heap.size, j, none⟩ := by unfold Addr.add; split <;> simp_all
  rw [hadd, cell_of_row _ _ _ _ _ _ (heap_alloc_new w _)]
  have e : (#[Value.int IntKind.i64 0, Value.int IntKind.i64 0, Value.int IntKind.i64 0, Value.int IntKind.i64 0, Value.int IntKind.i64 0, Value.int IntKind.i64 0, Value.int IntKind.i64 0, Value.int IntKind.i64 0, Value.int IntKind.i64 0, Value.int IntKind.i64 0, Value.int IntKind.i64 0, Value.int IntKind.i64 0, Value.int IntKind.i64 0, Value.int IntKind.i64 0, Value.int IntKind.i64 0, Value.int IntKind.i64 0, Value.int IntKind.i64 0, Value.int IntKind.i64 0, Value.int IntKind.i64 0, Value.int IntKind.i64 0, Value.int IntKind.i64 0, Value.int IntKind.i64 0, Value.int IntKind.i64 0, Value.int IntKind.i64 0, Value.int IntKind.i64 0, Value.int IntKind.i64 0] : Array Value) = Array.replicate 26 (Value.int .i64 0) := rfl
  rw [e, Array.getElem?_replicate, if_pos hj]

theorem new_one (w : World) (e : TypeId) (v u : Value) (H j : Nat) (hH : w.heap.size = H) (hj : j < 1 * 1) (h : v = u) : (w.alloc (.cells #[v] e)).cell? ((⟨H, 0, none⟩ : Addr).add j) = some u := by
  subst hH
  obtain rfl : j = 0 := by omega
  have hadd : (⟨w.heap.size, 0, none⟩ : Addr).add 0 = ⟨w.heap.size, 0, none⟩ := by unfold Addr.add; split <;> simp_all
  rw [hadd, cell_of_row _ _ _ _ _ _ (heap_alloc_new w _), h]
  rfl

set_option maxHeartbeats 400000 in
theorem grow_any {w : World} {tb k : Nat} {v0 v1 v2 : Value} {N : Nat → Nat → Int} {W : Nat → Bool} {B : Nat → Int} (h : T w tb v0 v1 v2 k N W B) (hk : k ≤ 1000000000) (hN : ∀ l, l < 26 → N k l = 0) (hW : W k = false) (hB : B k = 0) :
    Calls Yatv.prog 54 #[.pointer (some ⟨tb,0,none⟩)] w fun e w' => e = .returned (.int .i64 k) ∧ ∃ v0' v1' v2', T w' tb v0' v1' v2' (k + 1) N W B ∧ Moved (foot tb v0 v1 v2) (foot tb v0' v1' v2') w w' := by
  obtain ⟨ao, cap, rfl, _, _⟩ := h.r0.form
  obtain ⟨ao1, cap1, rfl, _, _⟩ := h.r1.form
  obtain ⟨ao2, cap2, rfl, _, _⟩ := h.r2.form
  have hc := h.c0
  have hlt := h.lt
  have h3 := hid h.three
  have HN := hid hN
  have HW := hid hW
  have HB := hid hB
  clear h hN hW hB
  go_enter Yatv.func54, Yatv.ntmps54
  go_wp2_with (at_builtin; refine wpList_append_row rfl (.tmp 13) (.tmp 15) 26 rfl 38 _ 26 208 Yatv.underlying26 Yatv.info38 (by simp [Value.cells]) (by decide) _ k _ rfl (h3.out.r0.alloc _) ⟨w.heap.size,0,none⟩ 1 1 rfl (fun i => .int .i64 (N (i/26) (i%26))) ?n ?o ?p (by decide) ?q ?r ?_)
  case n => intro j hj; rw [zeros26 w j (by omega), show (k * 26 + j) / 26 = k by omega, show (k * 26 + j) % 26 = j by omega, HN.out j (by omega)]
  case o => intro j; rfl
  case q => unfold maxLen; omega
  case r => omega
  intro g cap0 w1 hr hkp hat
  obtain ⟨⟨hd0, hf0⟩, hT1, hK1⟩ := (h3.out.alloc _).app0 hr hkp (by simpa using hat)
  have K1 := hid ((Moved.refl _ w).alloc _ |>.trans hK1)
  have hT1' := hid hT1
  have hc1 := hT1.c1
  have hlt1 := hT1.lt
  clear hr hkp hat hT1 hK1 hc h3
  go_wp2_with (at_builtin; refine wpList_append_row rfl (.tmp 23) (.tmp 24) 27 rfl 4 _ 1 1 Yatv.underlying27 Yatv.info4 rfl (by decide) _ k _ rfl (hT1'.out.r1.alloc _) ⟨_,0,none⟩ 1 1 rfl (fun i => .bool (W i)) ?n1 ?o1 ?p1 (by decide) ?q1 ?r1 ?_)
  case n1 => intro j hj; refine new_one _ _ _ _ _ j (by simp) hj ?_; rw [show k * 1 + j = k by omega, HW.out]
  case o1 => intro j; rfl
  case q1 => unfold maxLen; omega
  case r1 => omega
  clear hd0 hf0 hc1
  intro g1 cap1' w2 hr hkp hat
  obtain ⟨⟨hd0, hf0⟩, hT2, hK2⟩ := (hT1'.out.alloc _).app1 hr hkp (by simpa using hat)
  have K2 := hid (K1.out.trans ((Moved.refl _ _).alloc _ |>.trans hK2))
  have hT2' := hid hT2
  have hc2 := hT2.c2
  have hlt2 := hT2.lt
  clear hr hkp hat hT2 hK2 hT1' hlt1
  go_wp2_with (at_builtin; refine wpList_append_row rfl (.tmp 32) (.tmp 33) 28 rfl 3 _ 1 8 Yatv.underlying28 Yatv.info3 rfl (by decide) _ k _ rfl (hT2'.out.r2.alloc _) ⟨_,0,none⟩ 1 1 rfl (fun i => .int .i64 (B i)) ?n2 ?o2 ?p2 (by decide) ?q2 ?r2 ?_)
  case n2 => intro j hj; refine new_one _ _ _ _ _ j (by simp) hj ?_; rw [show k * 1 + j = k by omega, HB.out]
  case o2 => intro j; rfl
  case q2 => unfold maxLen; omega
  case r2 => omega
  clear hd0 hf0 hc2
  intro g2 cap2' w3 hr hkp hat
  obtain ⟨⟨hd0, hf0⟩, hT3, hK3⟩ := (hT2'.out.alloc _).app2 hr hkp (by simpa using hat)
  have K3 := hid (K2.out.trans ((Moved.refl _ _).alloc _ |>.trans hK3))
  have hT3' := hid hT3
  clear hr hkp hat hT3 hK3 hT2' hlt2
  go_wp2
  go_ret
  exact ⟨rfl, _, _, _, hT3'.out.one, K3.out⟩

end Go.Proofs.Ymwhat
