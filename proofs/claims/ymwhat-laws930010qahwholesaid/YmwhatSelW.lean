import Derived.Test.YmwhatSel
import Derived.Laws.CopyOwn
import Derived.Test.YmwhatQafT
set_option linter.unusedVariables false
set_option linter.unusedSimpArgs false
namespace Go.Proofs.Ymwhat
open Go.RowKit

/-- copy of a whole own row into a row of the same length. -/
theorem wpList_copy_rows {P : Program} {w : World} {ops : Array Oper} {rest : List Oper} {o : Oper} {a : Act} {Q : Exit → Act → World → Prop} (hgd : o.guard = none) (d s : Operand) (t : TypeId)
    (ho : o.op = .call { callee := .builtin .copy, args := #[d, s], argTypes := #[t, t] }) (e : TypeId) (size : Nat) (ht : P.underlying t = some (.slice e)) (hi : (P.info? e).map (·.size) = some size)
    (g n : Nat) (hd : a.eval d = .slice (some ⟨g, 0, none⟩) n n) (vs : Value) (f : Nat → Value) (hs : a.eval s = vs) (hr : Row w e size vs n f) (cur : Array Value) (hg : w.heap[g]? = some (.cells cur e (0, 0))) (hcs : cur.size = n * size) (h1 : ∀ j, (f j).oneCell' = true) (hmx : n ≤ maxLen)
    (h : ∀ w', Row w' e size (.slice (some ⟨g, 0, none⟩) n n) n f → Kept (fun b => b = g) w w' → wpList P ops Q rest (a.put o.dst (.int .i64 n)) w') : wpList P ops Q (o :: rest) a w := by
  refine wpList_plain hgd fun K hK => ?_
  obtain ⟨i, hq, hsz⟩ : ∃ i, P.info? e = some i ∧ i.size = size := by
    cases hq : P.info? e with
    | none => simp [hq] at hi
    | some i => exact ⟨i, rfl, by simpa [hq] using hi⟩
  rcases hr with ⟨rfl, rfl⟩ | ⟨b, cap, cur2, rfl, hb, hn, hc, hs2, hf⟩
  · have hrun := run_copy_nil P w t t o.type e ⟨g, 0, none⟩ 0 0 ht (by simp [hq])
    unfold Oper.wp
    simp [execOp, ho, resolve, invoke, builtin, hd, hs, hrun, Result.andThen]
    exact hK _ _ (h w (.inr ⟨g, 0, cur, rfl, hg, Nat.le_refl _, Nat.zero_le _, hcs, fun i hi => absurd hi (by omega)⟩) (Kept.refl _ _))
  · have hcl : ((List.range (n * size)).map f).length = n * size := by simp
    have hl := run_loadCells_list (P := P) w ⟨b, 0, none⟩ ((List.range (n * size)).map f) (fun j v hv => by
      rw [List.getElem?_map] at hv
      have hj : j < n * size := by
        rcases Nat.lt_or_ge j (n * size) with e | e
        · exact e
        · rw [List.getElem?_eq_none (by simp; omega)] at hv; simp at hv
      rw [List.getElem?_range hj] at hv
      simp at hv
      have hadd : (⟨b, 0, none⟩ : Addr).add j = ⟨b, j, none⟩ := by unfold Addr.add; split <;> simp_all
      rw [hadd, ← hv]
      simp [World.cell?, hb, hf j hj])
    have hst := run_storeCells_at P g 0 e ((List.range (n * size)).map f) 0 cur w hg (by simp [hcs]) (fun v hv => by
      obtain ⟨j, _, rfl⟩ := List.mem_map.1 hv
      exact h1 j)
    rw [hcl] at hl
    have hrun : (Builtin.copy_ #[t, t] o.type #[.slice (some ⟨g, 0, none⟩) n n, .slice (some ⟨b, 0, none⟩) n cap]).run P w = .ok (goInt n) (w.setRow g ((List.range (n * size)).map f).toArray) := by
      have e0 : cur.toList.take (0 + 0) ++ (List.range (n * size)).map f ++ cur.toList.drop (0 + 0 + ((List.range (n * size)).map f).length) = (List.range (n * size)).map f := by
        rw [hcl]
        simp [hcs]
      rw [e0] at hst
      have hmin : Nat.min n n = n := Nat.min_self n
      simp [Builtin.copy_, run_underlying ht, Builtin.lenOf, Builtin.firstCells, sizeOf, typeInfo, hq, hsz, hmin, hl, hst]
    unfold Oper.wp
    simp [execOp, ho, resolve, invoke, builtin, hd, hs, hrun, Result.andThen]
    refine hK _ _ (h _ (.inr ⟨g, n, ((List.range (n * size)).map f).toArray, rfl, setRow_heap w g cur _ e _ hg, Nat.le_refl _, hmx, by simp, fun i hi => by simp [hi]⟩) ?_)
    exact ⟨rfl, rfl, rfl, by simp [World.setRow], fun x hx hne => setRow_other w g x _ (fun e => hne e)⟩

theorem bgt_str (x t : ByteArray) : (!(Op.bytesLess x.toList t.toList || x.toList == t.toList)) = (!(bl x.data.toList t.data.toList || decide (x.data.toList = t.data.toList))) := by
  rw [beq_str, ByteArray.toList_eq, ByteArray.toList_eq, bless_eq]

set_option maxHeartbeats 1000000 in
theorem index62 {w : World} {v : Value} {M : List (List UInt8)} (h : SR w v M) (hn : M.length ≤ 1000000000) (q : ByteArray) :
    Calls Yatv.prog 62 #[v, .string q] w fun e w' => ∃ (i : Nat) (f : Bool), e = .returned (.tuple #[.int .i64 i, .bool f]) ∧ Pos M q.data.toList i f ∧ w' = w := by
  obtain ⟨ao, cap, rfl, hao⟩ := h.form
  have HH := hid h
  have HAO := hid hao
  clear h hao
  go_enter Yatv.func62, Yatv.ntmps62
  go_wp2
  go_loopw [6] (fun i wr => w = wr ∧ ∃ k : Nat, i = .int .i64 k ∧ k ≤ M.length ∧ ∀ j (hj : j < M.length), j < k → bl M[j] q.data.toList = true) (fun i _ => M.length - (intOf i).toNat)
  case atStart => exact ⟨rfl, 0, rfl, Nat.zero_le _, fun j _ hj => absurd hj (Nat.not_lt_zero _)⟩
  case round =>
    obtain ⟨rfl, k, rfl, hk, hl⟩ := hrel
    have HL := hid hl
    clear hl
    by_cases hlt : k < M.length
    · obtain ⟨g, rfl⟩ := HAO.out (by omega)
      obtain ⟨x, hx, ex⟩ := HH.out.cell k hlt
      have EX := hid ex
      clear ex
      by_cases he : x.data.toList = q.data.toList
      · have hq : (x.toList == q.toList) = true := by rw [beq_str]; simp [he]
        have HE := hid he
        clear he
        go_wp2
        go_ret2
        exact ⟨k, true, rfl, ⟨by omega, HL.out, fun _ => by rw [List.getElem?_eq_getElem hlt, ← EX.out, HE.out], fun h => by cases h⟩, rfl⟩
      · have hq : (x.toList == q.toList) = false := by rw [beq_str]; simp [he]
        rcases bl_tri x.data.toList q.data.toList with h1 | h1 | h1
        · have hb : Op.bytesLess x.toList q.toList = true := by rw [bless_str]; exact h1
          have HB := hid h1
          clear h1 he
          go_wp2
          go_roundw
          case rel =>
            refine ⟨by trivial, k + 1, by go_num, by omega, fun j hj hjk => ?_⟩
            rcases Nat.lt_or_ge j k with e | e
            · exact HL.out j hj e
            · obtain rfl : j = k := by omega
              rw [← EX.out]; exact HB.out
          case measure => simp [intOf]; omega
        · exact absurd h1 he
        · have hb : Op.bytesLess x.toList q.toList = false := by rw [bless_str]; exact bl_asymm h1
          have HB := hid h1
          clear h1 he
          go_wp2
          go_ret2
          refine ⟨k, false, rfl, ⟨by omega, HL.out, (fun h => by cases h), fun _ y hy => ?_⟩, rfl⟩
          rw [List.getElem?_eq_getElem hlt, ← EX.out] at hy
          rw [← Option.some.inj hy]
          exact HB.out
    · obtain rfl : M.length = k := by omega
      go_wp2
      go_ret2
      refine ⟨M.length, false, rfl, ⟨by omega, HL.out, (fun h => by cases h), fun _ y hy => ?_⟩, rfl⟩
      rw [List.getElem?_eq_none (by omega)] at hy
      cases hy

/-- The cells while the tail moves right. -/
def shR (M : List (List UInt8)) (j c : Nat) : Value := if c ≤ j then .string (bs ((M ++ [[]]).getD c [])) else .string (bs (M.getD (c - 1) []))

theorem shR_step (M : List (List UInt8)) (j c : Nat) (hj : j < M.length) : (if c = j + 1 then Value.string (bs ((M ++ [[]]).getD j [])) else shR M (j + 1) c) = shR M j c := by
  unfold shR
  by_cases e : c = j + 1
  · subst e
    rw [if_pos rfl, if_neg (by omega), Nat.add_sub_cancel]
    congr 2
    simp [List.getD, List.getElem?_append_left hj]
  · rw [if_neg e]
    by_cases h : c ≤ j
    · rw [if_pos h, if_pos (by omega)]
    · rw [if_neg h, if_neg (by omega)]

theorem shR_done (M : List (List UInt8)) (x : List UInt8) (i c : Nat) (hi : i ≤ M.length) (hc : c < M.length + 1) : (if c = i then Value.string (bs x) else shR M i c) = .string (bs ((insAt M x i).getD c [])) := by
  unfold shR insAt
  by_cases e : c = i
  · subst e
    rw [if_pos rfl]
    congr 2
    simp [List.getD, List.getElem?_append_right, Nat.min_eq_left hi]
  · rw [if_neg e]
    by_cases h : c ≤ i
    · rw [if_pos h]
      congr 2
      have h1 : c < M.length := by omega
      have h2 : c < i := by omega
      rw [List.getD, List.getD, List.getElem?_append_left h1, List.getElem?_append_left (by simp; omega), List.getElem?_take, if_pos h2]
    · rw [if_neg h]
      congr 2
      obtain ⟨d, rfl⟩ : ∃ d, c = i + 1 + d := ⟨c - i - 1, by omega⟩
      simp only [List.getD]
      rw [List.getElem?_append_right (by simp; omega)]
      simp [Nat.min_eq_left hi]
      rw [show i + 1 + d - i = d + 1 by omega, List.getElem?_cons_succ, List.getElem?_drop]

theorem insAt_length (M : List (List UInt8)) (x : List UInt8) (i : Nat) : (insAt M x i).length = M.length + 1 := by
  have := (insAt_perm M x i).length_eq
  simpa using this

/-- What qagins leaves. -/
def Ins42 (M : List (List UInt8)) (x : List UInt8) (M' : List (List UInt8)) : Prop := (x ∈ M ∧ M' = M) ∨ ∃ i, Pos M x i false ∧ M' = insAt M x i

set_option maxHeartbeats 2000000 in
theorem ins42 {w : World} {v : Value} {M : List (List UInt8)} (h : SR w v M) (hn : M.length ≤ 1000000) (q : ByteArray) :
    Calls Yatv.prog 42 #[v, .string q] w fun e w' => ∃ v' M', e = .returned v' ∧ SR w' v' M' ∧ Ins42 M q.data.toList M' ∧ Kept (fun b => v.ownBlock = some b) w w' ∧ (∀ g, v'.ownBlock = some g → v.ownBlock = some g ∨ w.heap.size ≤ g) := by
  have HH := hid h
  clear h
  go_enter Yatv.func42, Yatv.ntmps42
  go_wp2_with fail
  refine (index62 HH.out (by omega) q).mono ?_
  rintro e w' ⟨i, f, rfl, hp, hw⟩
  obtain rfl := hw.symm
  have HP := hid hp
  have hil := hp.le
  clear hp
  cases f
  · go_wp2_with (at_builtin; refine wpList_append_str rfl (.tmp 16) (.tmp 17) rfl Yatv.underlying31 Yatv.info9 _ M rfl (Row.alloc HH.out _) w.heap.size [] rfl ?hH (by omega) ?_)
    case hH => rw [heap_alloc_new]; rfl
    intro v' w1 hsr1 hk1 hat1
    have hL1 : (M ++ [[]]).length = M.length + 1 := by simp
    obtain ⟨g, cap, rfl, _, _⟩ := Row.pos hsr1 (by omega)
    have HK1 : Hid (Kept (fun b => v.ownBlock = some b) w w1) := ((Kept.refl _ w).alloc _).trans hk1
    have hg1 := hat1 g (by simp [own_slice])
    have HG1 : Hid (v.ownBlock = some g ∨ w.heap.size ≤ g) := by
      rcases hg1 with e | e
      · exact .inl e
      · exact .inr (by omega)
    have HR1 : Hid (Row w1 9 1 (.slice (some ⟨g, 0, none⟩) (M.length + 1) cap) (M.length + 1) (shR M M.length)) := by
      have := hsr1
      unfold SR at this
      rw [hL1] at this
      refine this.congr (fun c hc => ?_)
      unfold shR
      rw [if_pos (by omega)]
    rw [hL1]
    clear hsr1 hk1 hat1 hg1 hL1
    go_wp2
    go_loopw [7] (fun j wr => ∃ k : Nat, j = .int .i64 k ∧ i ≤ k ∧ k ≤ M.length ∧ Row wr 9 1 (.slice (some ⟨g, 0, none⟩) (M.length + 1) cap) (M.length + 1) (shR M k) ∧ Kept (fun b => v.ownBlock = some b) w wr) (fun j _ => (intOf j).toNat)
    case atStart => exact ⟨M.length, by go_num, hil, Nat.le_refl _, HR1.out, HK1.out⟩
    case round =>
      obtain ⟨k, rfl, hik, hkM, hr, hkp⟩ := hrel
      by_cases hlt : i < k
      · obtain ⟨j, rfl⟩ : ∃ j, k = j + 1 := ⟨k - 1, by omega⟩
        have hc0 := hr.cell (i := j) (by omega)
        have hc1 := hr.cell (i := j + 1) (by omega)
        have hf1 := hr.frozen (j + 1)
        rw [shR, if_pos (by omega)] at hc0
        rw [shR, if_pos (by omega)] at hc1
        have HR2 := hid (hr.set (j + 1) (.string (bs ((M ++ [[]]).getD j []))))
        have HK2 : Hid (Kept (fun b => v.ownBlock = some b) w (wr.setCell ⟨g, j + 1, none⟩ (.string (bs ((M ++ [[]]).getD j []))))) := by
          rcases HG1.out with e | e
          · exact hkp.setCell (p := ⟨g, j + 1, none⟩) e _
          · exact hkp.setNew (p := ⟨g, j + 1, none⟩) e _
        clear hr hkp HR1 HK1
        generalize hx0 : bs ((M ++ [[]]).getD j []) = x0 at *
        generalize bs ((M ++ [[]]).getD (j + 1) []) = x1 at *
        have HX0 := hid hx0
        clear hx0
        go_wp2
        go_roundw
        case rel => exact ⟨j, by go_num, by omega, by omega, HR2.out.congr (fun c hc => by rw [← HX0.out]; exact shR_step M j c (by omega)), HK2.out⟩
        case measure => simp [intOf]
      · obtain rfl : i = k := by omega
        have hci := hr.cell (i := i) (by omega)
        have hfi := hr.frozen i
        rw [shR, if_pos (Nat.le_refl _)] at hci
        have HR2 := hid (hr.set i (.string q))
        have HK2 : Hid (Kept (fun b => v.ownBlock = some b) w (wr.setCell ⟨g, i, none⟩ (.string q))) := by
          rcases HG1.out with e | e
          · exact hkp.setCell (p := ⟨g, i, none⟩) e _
          · exact hkp.setNew (p := ⟨g, i, none⟩) e _
        clear hr hkp HR1 HK1
        generalize bs ((M ++ [[]]).getD i []) = x1 at *
        go_wp2
        go_ret
        refine ⟨_, insAt M q.data.toList i, rfl, ?_, .inr ⟨i, HP.out, rfl⟩, HK2.out, fun g' hg' => ?_⟩
        · unfold SR
          rw [insAt_length]
          exact HR2.out.congr (fun c hc => by
            rw [← shR_done M q.data.toList i c hil (by omega), bs_of])
        · have : g' = g := by simpa [own_slice] using hg'.symm
          subst this
          exact HG1.out
  · go_wp2
    go_ret
    exact ⟨_, M, rfl, HH.out, .inl ⟨HP.out.mem, rfl⟩, Kept.refl _ _, fun g hg => .inl hg⟩

/-- The cells while the tail moves left. -/
def shL (M : List (List UInt8)) (i j c : Nat) : Value := if i ≤ c ∧ c < j then .string (bs (M.getD (c + 1) [])) else .string (bs (M.getD c []))

theorem shL_step (M : List (List UInt8)) (i j c : Nat) (hij : i ≤ j) : (if c = j then Value.string (bs (M.getD (j + 1) [])) else shL M i j c) = shL M i (j + 1) c := by
  unfold shL
  by_cases e : c = j
  · subst e
    rw [if_pos rfl, if_pos (by omega)]
  · rw [if_neg e]
    by_cases h : i ≤ c ∧ c < j
    · rw [if_pos h, if_pos (by omega)]
    · rw [if_neg h, if_neg (by omega)]

theorem shL_done (M : List (List UInt8)) (i n c : Nat) (hn : n + 1 = M.length) (hi : i ≤ n) (hc : c < n) : shL M i n c = .string (bs ((M.eraseIdx i).getD c [])) := by
  unfold shL
  have e2 : (M.eraseIdx i).getD c [] = if c < i then M.getD c [] else M.getD (c + 1) [] := by
    rw [List.getD, List.getElem?_eraseIdx]
    split <;> rfl
  rw [e2]
  by_cases h : i ≤ c
  · rw [if_pos ⟨h, hc⟩, if_neg (by omega)]
  · rw [if_neg (by omega), if_pos (by omega)]

/-- What qagrem leaves. -/
def Rem43 (M : List (List UInt8)) (x : List UInt8) (M' : List (List UInt8)) : Prop := (∃ i, Pos M x i false ∧ M' = M) ∨ ∃ i, Pos M x i true ∧ M' = M.eraseIdx i

set_option maxHeartbeats 2000000 in
theorem rem43 {w : World} {v : Value} {M : List (List UInt8)} (h : SR w v M) (hn : M.length ≤ 1000000) (q : ByteArray) :
    Calls Yatv.prog 43 #[v, .string q] w fun e w' => ∃ v' M', e = .returned v' ∧ SR w' v' M' ∧ Rem43 M q.data.toList M' ∧ Kept (fun b => v.ownBlock = some b) w w' ∧ (∀ g, v'.ownBlock = some g → v.ownBlock = some g ∨ w.heap.size ≤ g) := by
  have HH := hid h
  clear h
  go_enter Yatv.func43, Yatv.ntmps43
  go_wp2_with fail
  refine (index62 HH.out (by omega) q).mono ?_
  rintro e w' ⟨i, f, rfl, hp, hw⟩
  obtain rfl := hw.symm
  have HP := hid hp
  have hil := hp.le
  clear hp
  cases f
  · go_wp2
    go_ret
    exact ⟨_, M, rfl, HH.out, .inl ⟨i, HP.out, rfl⟩, Kept.refl _ _, fun g hg => .inl hg⟩
  · have hiM : i < M.length := (List.getElem?_eq_some_iff.1 (HP.out.yes rfl)).1
    obtain ⟨n, hnM⟩ : ∃ n, n + 1 = M.length := ⟨M.length - 1, by omega⟩
    obtain ⟨g, cap, rfl, hcap, _⟩ := Row.pos HH.out (by omega)
    have HR1 : Hid (Row w 9 1 (.slice (some ⟨g, 0, none⟩) M.length cap) M.length (shL M i i)) := Row.congr HH.out (fun c hc => by
      unfold shL
      rw [if_neg (by omega)])
    go_wp2
    go_loopw [7] (fun j wr => ∃ k : Nat, j = .int .i64 k ∧ i ≤ k ∧ k ≤ n ∧ Row wr 9 1 (.slice (some ⟨g, 0, none⟩) M.length cap) M.length (shL M i k) ∧ Kept (fun b => b = g) w wr) (fun j _ => n - (intOf j).toNat)
    case atStart => exact ⟨i, rfl, Nat.le_refl _, by omega, HR1.out, Kept.refl _ _⟩
    case round =>
      obtain ⟨k, rfl, hik, hkM, hr, hkp⟩ := hrel
      by_cases hlt : k < n
      · have hc0 := hr.cell (i := k) (by omega)
        have hc1 := hr.cell (i := k + 1) (by omega)
        have hf1 := hr.frozen k
        rw [shL, if_neg (by omega)] at hc0
        rw [shL, if_neg (by omega)] at hc1
        have HR2 := hid (hr.set k (.string (bs (M.getD (k + 1) []))))
        have HK2 := hid (hkp.setCell (p := ⟨g, k, none⟩) rfl (.string (bs (M.getD (k + 1) []))))
        clear hr hkp HR1
        generalize hx0 : bs (M.getD (k + 1) []) = x0 at *
        generalize bs (M.getD k []) = x1 at *
        have HX0 := hid hx0
        clear hx0
        go_wp2
        go_roundw
        case rel => exact ⟨k + 1, by go_num, by omega, by omega, HR2.out.congr (fun c hc => by rw [← HX0.out]; exact shL_step M i k c hik), HK2.out⟩
        case measure => simp [intOf]; omega
      · obtain rfl : n = k := by omega
        have HR2 := hid (Row.shrink (n' := n) hr (by omega))
        have HK2 := hid hkp
        have hpp : ((M.length : Int) - 1) = (n : Int) := by omega
        clear hr hkp HR1
        go_wp2
        go_ret
        refine ⟨_, M.eraseIdx i, rfl, ?_, .inr ⟨i, HP.out, rfl⟩, HK2.out.mono (fun x _ e => by rw [own_slice, e]), fun g' hg' => .inl ?_⟩
        · unfold SR
          have hl : (M.eraseIdx i).length = n := by rw [List.length_eraseIdx, if_pos hiM]; omega
          rw [hl]
          exact HR2.out.congr (fun c hc => shL_done M i n c hnM (by omega) (by omega))
        · simpa [own_slice] using hg'

/-- What the model answers for place k. -/
def selS (M : List (List UInt8)) (k : Int) : ByteArray := if 0 ≤ k then bs (M.getD k.toNat []) else ByteArray.empty
def selB (M : List (List UInt8)) (k : Int) : Bool := decide (0 ≤ k ∧ k < M.length)
theorem selS_in {M : List (List UInt8)} {k : Nat} (h : k < M.length) : selS M k = bs M[k] := by
  unfold selS
  rw [if_pos (by omega), Int.toNat_natCast]
  simp [List.getD, h]
theorem selS_out {M : List (List UInt8)} {k : Int} (h : ¬ (0 ≤ k ∧ k < M.length)) : selS M k = ByteArray.empty := by
  unfold selS
  by_cases h0 : 0 ≤ k
  · rw [if_pos h0, List.getD, List.getElem?_eq_none (by omega)]
    rfl
  · rw [if_neg h0]

set_option maxHeartbeats 1000000 in
theorem expect46 {w : World} {v : Value} {M : List (List UInt8)} (h : SR w v M) (hn : M.length ≤ 1000000) (k : Int) (hk0 : -9223372036854775808 ≤ k) (hk1 : k ≤ 9223372036854775807) :
    Calls Yatv.prog 46 #[v, .int .i64 k] w fun e w' => e = .returned (.tuple #[.string (selS M k), .bool (selB M k)]) ∧ w' = w := by
  obtain ⟨ao, cap, rfl, hao⟩ := h.form
  have HH := hid h
  have HAO := hid hao
  clear h hao
  by_cases h1 : k < 0
  · have hd1 : decide (k < 0) = true := decide_eq_true h1
    have hs := hid (selS_out (M := M) (k := k) (by omega))
    have hb : Hid (selB M k = false) := decide_eq_false (by omega)
    rw [hs.out, hb.out]
    go_enter Yatv.func46, Yatv.ntmps46
    go_wp2
    go_ret2
    exact ⟨rfl, rfl⟩
  · have hd1 : decide (k < 0) = false := decide_eq_false h1
    by_cases h2 : (M.length : Int) ≤ k
    · have hs := hid (selS_out (M := M) (k := k) (by omega))
      have hb : Hid (selB M k = false) := decide_eq_false (by omega)
      rw [hs.out, hb.out]
      go_enter Yatv.func46, Yatv.ntmps46
      go_wp2
      go_ret2
      exact ⟨rfl, rfl⟩
    · obtain ⟨m, rfl⟩ : ∃ m : Nat, k = m := ⟨k.toNat, by omega⟩
      have hm : m < M.length := by omega
      have hs := hid (selS_in hm)
      have hb : Hid (selB M m = true) := decide_eq_true (by omega)
      rw [hs.out, hb.out]
      obtain ⟨g, rfl⟩ := HAO.out (by omega)
      obtain ⟨x, hx, ex⟩ := HH.out.cell m hm
      have HX : Hid (bs M[m] = x) := by show _ = _; rw [← ex, bs_of]
      rw [HX.out]
      clear ex hs hb
      go_enter Yatv.func46, Yatv.ntmps46
      go_wp2
      go_ret2
      exact ⟨rfl, rfl⟩

end Go.Proofs.Ymwhat
