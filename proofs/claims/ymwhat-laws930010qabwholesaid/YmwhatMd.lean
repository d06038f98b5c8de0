import Derived.Test.YmwhatQacT
import Derived.Test.YmwhatWord
set_option linter.unusedVariables false
set_option linter.unusedSimpArgs false
namespace Go.Proofs.Ymwhat
open Go.RowKit

/-- The model in memory: block tb holds its three slices. -/
structure M3 (w : World) (tb : Nat) (v0 v1 v2 : Value) (k0 k1 k2 : Nat) (N : Nat → Value) (W : Nat → Bool) (B : Nat → Int) : Prop where
  tc : w.heap[tb]? = some (.cells #[v0, v1, v2] 85 (0, 0))
  r0 : Row w 9 1 v0 k0 N
  r1 : Row w 4 1 v1 k1 (fun i => .bool (W i))
  r2 : Row w 3 1 v2 k2 (fun i => .int .i64 (B i))
  n0 : v0.ownBlock ≠ some tb
  n1 : v1.ownBlock ≠ some tb
  n2 : v2.ownBlock ≠ some tb
  n01 : ∀ g, v0.ownBlock = some g → v1.ownBlock ≠ some g
  n02 : ∀ g, v0.ownBlock = some g → v2.ownBlock ≠ some g
  n12 : ∀ g, v1.ownBlock = some g → v2.ownBlock ≠ some g

section
variable {w w1 w' : World} {tb k k0 k1 k2 : Nat} {v0 v1 v2 : Value} {N : Nat → Value} {W : Nat → Bool} {B : Nat → Int}

theorem M3.c0 (h : M3 w tb v0 v1 v2 k0 k1 k2 N W B) : w.cell? ⟨tb, 0, none⟩ = some v0 := by simp [World.cell?, h.tc]
theorem M3.c1 (h : M3 w tb v0 v1 v2 k0 k1 k2 N W B) : w.cell? ⟨tb, 1, none⟩ = some v1 := by simp [World.cell?, h.tc]
theorem M3.c2 (h : M3 w tb v0 v1 v2 k0 k1 k2 N W B) : w.cell? ⟨tb, 2, none⟩ = some v2 := by simp [World.cell?, h.tc]
theorem M3.fr (h : M3 w tb v0 v1 v2 k0 k1 k2 N W B) (i : Nat) : w.frozen? ⟨tb, i, none⟩ = false := by simp [World.frozen?, h.tc]
theorem M3.lt (h : M3 w tb v0 v1 v2 k0 k1 k2 N W B) : tb < w.heap.size := (Array.getElem?_eq_some_iff.1 h.tc).1
theorem M3.alloc (h : M3 w tb v0 v1 v2 k0 k1 k2 N W B) (o : Obj) : M3 (w.alloc o) tb v0 v1 v2 k0 k1 k2 N W B :=
  ⟨(Below.heap_alloc _ _ _ h.lt).trans h.tc, h.r0.alloc o, h.r1.alloc o, h.r2.alloc o, h.n0, h.n1, h.n2, h.n01, h.n02, h.n12⟩

/-- The first array has grown; its new value is stored into the struct. -/
theorem M3.app0 (h : M3 w tb v0 v1 v2 k0 k1 k2 N W B) {g n cap : Nat} (hr : Row w1 9 1 (.slice (some ⟨g, 0, none⟩) n cap) n N) (hk : Kept (fun b => v0.ownBlock = some b) w w1) (hat : v0.ownBlock = some g ∨ w.heap.size ≤ g) :
    (w1.cell? ⟨tb, 0, none⟩ = some v0 ∧ w1.frozen? ⟨tb, 0, none⟩ = false) ∧ M3 (w1.setCell ⟨tb, 0, none⟩ (.slice (some ⟨g, 0, none⟩) n cap)) tb (.slice (some ⟨g, 0, none⟩) n cap) v1 v2 n k1 k2 N W B ∧
      Moved (foot tb v0 v1 v2) (foot tb (.slice (some ⟨g, 0, none⟩) n cap) v1 v2) w (w1.setCell ⟨tb, 0, none⟩ (.slice (some ⟨g, 0, none⟩) n cap)) := by
  have htb : w1.heap[tb]? = some (.cells #[v0, v1, v2] 85 (0, 0)) := (hk.block tb h.lt h.n0).trans h.tc
  have hg : g ≠ tb := by rcases hat with e | e; exact fun e' => h.n0 (e' ▸ e); have := h.lt; omega
  have l1 : ∀ x, v1.ownBlock = some x → x ≠ g := fun x hx e => by
    subst e
    rcases hat with e | e
    · exact h.n01 _ e hx
    · have := h.r1.lt hx; omega
  have l2 : ∀ x, v2.ownBlock = some x → x ≠ g := fun x hx e => by
    subst e
    rcases hat with e | e
    · exact h.n02 _ e hx
    · have := h.r2.lt hx; omega
  refine ⟨⟨by simp [World.cell?, htb], by simp [World.frozen?, htb]⟩, ⟨?_, hr.setOther (by simpa [own_slice] using hg) _, (h.r1.kept hk (fun x hx e => h.n01 _ e hx)).setOther h.n1 _, (h.r2.kept hk (fun x hx e => h.n02 _ e hx)).setOther h.n2 _,
    by simpa [own_slice] using hg, h.n1, h.n2, fun x hx e => l1 x e (by simpa [own_slice] using hx.symm), fun x hx e => l2 x e (by simpa [own_slice] using hx.symm), h.n12⟩, ⟨?_, ?_⟩⟩
  · rw [heap_setCell_same htb]; rfl
  · exact (hk.mono (fun x _ hx => .inr (.inl hx))).setCell (.inl rfl) _
  · intro b hb
    rcases hb with rfl | hb | hb | hb
    · exact .inl (.inl rfl)
    · simp [own_slice] at hb
      subst hb
      rcases hat with e | e
      · exact .inl (.inr (.inl e))
      · exact .inr e
    · exact .inl (.inr (.inr (.inl hb)))
    · exact .inl (.inr (.inr (.inr hb)))

theorem M3.app1 (h : M3 w tb v0 v1 v2 k0 k1 k2 N W B) {g n cap : Nat} (hr : Row w1 4 1 (.slice (some ⟨g, 0, none⟩) n cap) n (fun i => .bool (W i))) (hk : Kept (fun b => v1.ownBlock = some b) w w1) (hat : v1.ownBlock = some g ∨ w.heap.size ≤ g) :
    (w1.cell? ⟨tb, 1, none⟩ = some v1 ∧ w1.frozen? ⟨tb, 1, none⟩ = false) ∧ M3 (w1.setCell ⟨tb, 1, none⟩ (.slice (some ⟨g, 0, none⟩) n cap)) tb v0 (.slice (some ⟨g, 0, none⟩) n cap) v2 k0 n k2 N W B ∧
      Moved (foot tb v0 v1 v2) (foot tb v0 (.slice (some ⟨g, 0, none⟩) n cap) v2) w (w1.setCell ⟨tb, 1, none⟩ (.slice (some ⟨g, 0, none⟩) n cap)) := by
  have htb : w1.heap[tb]? = some (.cells #[v0, v1, v2] 85 (0, 0)) := (hk.block tb h.lt h.n1).trans h.tc
  have hg : g ≠ tb := by rcases hat with e | e; exact fun e' => h.n1 (e' ▸ e); have := h.lt; omega
  have l0 : ∀ x, v0.ownBlock = some x → x ≠ g := fun x hx e => by
    subst e
    rcases hat with e | e
    · exact h.n01 _ hx e
    · have := h.r0.lt hx; omega
  have l2 : ∀ x, v2.ownBlock = some x → x ≠ g := fun x hx e => by
    subst e
    rcases hat with e | e
    · exact h.n12 _ e hx
    · have := h.r2.lt hx; omega
  refine ⟨⟨by simp [World.cell?, htb], by simp [World.frozen?, htb]⟩, ⟨?_, (h.r0.kept hk (fun x hx e => h.n01 _ hx e)).setOther h.n0 _, hr.setOther (by simpa [own_slice] using hg) _, (h.r2.kept hk (fun x hx e => h.n12 _ e hx)).setOther h.n2 _,
    h.n0, by simpa [own_slice] using hg, h.n2, fun x hx e => l0 x hx (by simpa [own_slice] using e.symm), h.n02, fun x hx e => l2 x e (by simpa [own_slice] using hx.symm)⟩, ⟨?_, ?_⟩⟩
  · rw [heap_setCell_same htb]; rfl
  · exact (hk.mono (fun x _ hx => .inr (.inr (.inl hx)))).setCell (.inl rfl) _
  · intro b hb
    rcases hb with rfl | hb | hb | hb
    · exact .inl (.inl rfl)
    · exact .inl (.inr (.inl hb))
    · simp [own_slice] at hb
      subst hb
      rcases hat with e | e
      · exact .inl (.inr (.inr (.inl e)))
      · exact .inr e
    · exact .inl (.inr (.inr (.inr hb)))

theorem M3.app2 (h : M3 w tb v0 v1 v2 k0 k1 k2 N W B) {g n cap : Nat} (hr : Row w1 3 1 (.slice (some ⟨g, 0, none⟩) n cap) n (fun i => .int .i64 (B i))) (hk : Kept (fun b => v2.ownBlock = some b) w w1) (hat : v2.ownBlock = some g ∨ w.heap.size ≤ g) :
    (w1.cell? ⟨tb, 2, none⟩ = some v2 ∧ w1.frozen? ⟨tb, 2, none⟩ = false) ∧ M3 (w1.setCell ⟨tb, 2, none⟩ (.slice (some ⟨g, 0, none⟩) n cap)) tb v0 v1 (.slice (some ⟨g, 0, none⟩) n cap) k0 k1 n N W B ∧
      Moved (foot tb v0 v1 v2) (foot tb v0 v1 (.slice (some ⟨g, 0, none⟩) n cap)) w (w1.setCell ⟨tb, 2, none⟩ (.slice (some ⟨g, 0, none⟩) n cap)) := by
  have htb : w1.heap[tb]? = some (.cells #[v0, v1, v2] 85 (0, 0)) := (hk.block tb h.lt h.n2).trans h.tc
  have hg : g ≠ tb := by rcases hat with e | e; exact fun e' => h.n2 (e' ▸ e); have := h.lt; omega
  have l0 : ∀ x, v0.ownBlock = some x → x ≠ g := fun x hx e => by
    subst e
    rcases hat with e | e
    · exact h.n02 _ hx e
    · have := h.r0.lt hx; omega
  have l1 : ∀ x, v1.ownBlock = some x → x ≠ g := fun x hx e => by
    subst e
    rcases hat with e | e
    · exact h.n12 _ hx e
    · have := h.r1.lt hx; omega
  refine ⟨⟨by simp [World.cell?, htb], by simp [World.frozen?, htb]⟩, ⟨?_, (h.r0.kept hk (fun x hx e => h.n02 _ hx e)).setOther h.n0 _, (h.r1.kept hk (fun x hx e => h.n12 _ hx e)).setOther h.n1 _, hr.setOther (by simpa [own_slice] using hg) _,
    h.n0, h.n1, by simpa [own_slice] using hg, h.n01, fun x hx e => l0 x hx (by simpa [own_slice] using e.symm), fun x hx e => l1 x hx (by simpa [own_slice] using e.symm)⟩, ⟨?_, ?_⟩⟩
  · rw [heap_setCell_same htb]; rfl
  · exact (hk.mono (fun x _ hx => .inr (.inr (.inr hx)))).setCell (.inl rfl) _
  · intro b hb
    rcases hb with rfl | hb | hb | hb
    · exact .inl (.inl rfl)
    · exact .inl (.inr (.inl hb))
    · exact .inl (.inr (.inr (.inl hb)))
    · simp [own_slice] at hb
      subst hb
      rcases hat with e | e
      · exact .inl (.inr (.inr (.inr e)))
      · exact .inr e
end


section
variable {w w1 w' : World} {tb k k0 k1 k2 : Nat} {v0 v1 v2 : Value} {N : Nat → Value} {W : Nat → Bool} {B : Nat → Int}

theorem M3.kept {F : Nat → Prop} (h : M3 w tb v0 v1 v2 k0 k1 k2 N W B) (hk : Kept F w w') (hF : ∀ b, foot tb v0 v1 v2 b → ¬ F b) : M3 w' tb v0 v1 v2 k0 k1 k2 N W B :=
  ⟨(hk.block tb h.lt (hF _ (.inl rfl))).trans h.tc, h.r0.kept hk (fun g hg => hF g (.inr (.inl hg))), h.r1.kept hk (fun g hg => hF g (.inr (.inr (.inl hg)))),
    h.r2.kept hk (fun g hg => hF g (.inr (.inr (.inr hg)))), h.n0, h.n1, h.n2, h.n01, h.n02, h.n12⟩

theorem M3.foot_lt (h : M3 w tb v0 v1 v2 k0 k1 k2 N W B) {b : Nat} (hb : foot tb v0 v1 v2 b) : b < w.heap.size := by
  rcases hb with rfl | hb | hb | hb
  · exact h.lt
  · exact h.r0.lt hb
  · exact h.r1.lt hb
  · exact h.r2.lt hb

theorem M3.congr (h : M3 w tb v0 v1 v2 k0 k1 k2 N W B) {N' : Nat → Value} {W' : Nat → Bool} {B' : Nat → Int} (hN : ∀ n, n < k0 → N n = N' n) (hW : ∀ n, n < k1 → W n = W' n) (hB : ∀ n, n < k2 → B n = B' n) : M3 w tb v0 v1 v2 k0 k1 k2 N' W' B' :=
  ⟨h.tc, h.r0.congr (fun i hi => by rw [hN _ (by omega)]), h.r1.congr (fun i hi => by rw [hW _ (by omega)]), h.r2.congr (fun i hi => by rw [hB _ (by omega)]), h.n0, h.n1, h.n2, h.n01, h.n02, h.n12⟩

theorem M3.setB {g m cap : Nat} (h : M3 w tb v0 v1 (.slice (some ⟨g, 0, none⟩) m cap) k0 k1 k2 N W B) (n : Nat) (x : Int) :
    M3 (w.setCell ⟨g, n, none⟩ (.int .i64 x)) tb v0 v1 (.slice (some ⟨g, 0, none⟩) m cap) k0 k1 k2 N W (fun j => if j = n then x else B j) :=
  ⟨(Below.heap_setCell _ _ _ _ (fun e => h.n2 (by rw [own_slice]; exact congrArg some e.symm))).trans h.tc, h.r0.setOther (p := ⟨g, n, none⟩) (fun e => h.n02 _ e rfl) _, h.r1.setOther (p := ⟨g, n, none⟩) (fun e => h.n12 _ e rfl) _,
    (h.r2.set n (.int .i64 x)).congr (fun i hi => by by_cases e : i = n <;> simp [e]), h.n0, h.n1, h.n2, h.n01, h.n02, h.n12⟩

theorem M3.setW {g m cap : Nat} (h : M3 w tb v0 (.slice (some ⟨g, 0, none⟩) m cap) v2 k0 k1 k2 N W B) (n : Nat) (x : Bool) :
    M3 (w.setCell ⟨g, n, none⟩ (.bool x)) tb v0 (.slice (some ⟨g, 0, none⟩) m cap) v2 k0 k1 k2 N (fun j => if j = n then x else W j) B :=
  ⟨(Below.heap_setCell _ _ _ _ (fun e => h.n1 (by rw [own_slice]; exact congrArg some e.symm))).trans h.tc, h.r0.setOther (p := ⟨g, n, none⟩) (fun e => h.n01 _ e rfl) _,
    (h.r1.set n (.bool x)).congr (fun i hi => by by_cases e : i = n <;> simp [e]), h.r2.setOther (p := ⟨g, n, none⟩) (fun e => h.n12 _ rfl e) _, h.n0, h.n1, h.n2, h.n01, h.n02, h.n12⟩
end

/-- A path as it lies in memory. -/
def pth (ps : List (List UInt8)) (i : Nat) : Value := .string (bs (ps.getD i []))

theorem M3.sr {w : World} {tb k1 k2 : Nat} {v0 v1 v2 : Value} {ps : List (List UInt8)} {W : Nat → Bool} {B : Nat → Int} (h : M3 w tb v0 v1 v2 ps.length k1 k2 (pth ps) W B) : SR w v0 ps := h.r0

/-- The model, its nodes by their paths. -/
def Mo (w : World) (mb : Nat) (F : Nat → Prop) (ps : List (List UInt8)) (f : List UInt8 → Bool) (g : List UInt8 → Nat) : Prop :=
  ∃ v0 v1 v2, F = foot mb v0 v1 v2 ∧ M3 w mb v0 v1 v2 ps.length ps.length ps.length (pth ps) (wx ps f) (bx ps g)

set_option maxHeartbeats 1000000 in
theorem index52 {w : World} {mb k1 k2 : Nat} {v0 v1 v2 : Value} {ps : List (List UInt8)} {W : Nat → Bool} {B : Nat → Int} (h : M3 w mb v0 v1 v2 ps.length k1 k2 (pth ps) W B) (hn : ps.length ≤ 1000000000) (q : ByteArray) :
    Calls Yatv.prog 52 #[.pointer (some ⟨mb,0,none⟩), .string q] w fun e w' => e = .returned (.int .i64 (idxI ps q.data.toList)) ∧ w' = w := by
  obtain ⟨ao, cap, rfl, hao⟩ := h.r0.form
  have hd0 := h.c0
  have HH := hid h.sr
  have HAO := hid hao
  clear h hao
  go_enter Yatv.func52, Yatv.ntmps52
  go_wp2
  go_loopw [5] (fun i wr => w = wr ∧ ∃ k : Nat, i = .int .i64 k ∧ k ≤ ps.length ∧ ∀ j (hj : j < ps.length), j < k → ps[j] ≠ q.data.toList) (fun i _ => ps.length - (intOf i).toNat)
  case atStart => exact ⟨rfl, 0, rfl, Nat.zero_le _, fun j _ hj => absurd hj (Nat.not_lt_zero _)⟩
  case round =>
    obtain ⟨rfl, k, rfl, hk, hl⟩ := hrel
    have HL := hid hl
    clear hl
    by_cases hlt : k < ps.length
    · obtain ⟨g, rfl⟩ := HAO.out.1 (by omega)
      obtain ⟨x, hx, ex⟩ := HH.out.cell k hlt
      have EX := hid ex
      clear ex
      by_cases he : x.data.toList = q.data.toList
      · have hq : (x.toList == q.toList) = true := by rw [beq_str]; simp [he]
        have HE := hid he
        clear he
        go_wp2
        go_ret
        have e1 : ps[k] = q.data.toList := by rw [← EX.out, HE.out]
        have e2 : ps.idxOf q.data.toList = k := idxOf_first hlt e1 (fun j hj hjl => HL.out j hjl hj)
        have hm : q.data.toList ∈ ps := e1 ▸ List.getElem_mem hlt
        rw [idxI_nonneg hm, e2]
        exact ⟨rfl, rfl⟩
      · have hq : (x.toList == q.toList) = false := by rw [beq_str]; simp [he]
        have HE := hid he
        clear he
        go_wp2
        go_roundw
        case rel =>
          refine ⟨by trivial, k + 1, by go_num, by omega, fun j hj hjk => ?_⟩
          rcases Nat.lt_or_ge j k with e | e
          · exact HL.out j hj e
          · obtain rfl : j = k := by omega
            rw [← EX.out]; exact HE.out
        case measure => simp [intOf]; omega
    · obtain rfl : ps.length = k := by omega
      go_wp2
      go_ret
      have hm : q.data.toList ∉ ps := fun hm => by
        obtain ⟨j, hj, e⟩ := List.getElem_of_mem hm
        exact HL.out j hj hj e
      rw [idxI_neg hm]
      exact ⟨rfl, rfl⟩

set_option maxHeartbeats 800000 in
theorem valid63 (s : ByteArray) (w : World) (hs : s.size ≤ 1000000000) :
    Calls Yatv.prog 63 #[.string s] w fun e w' => e = .returned (.bool (validB s.data.toList)) ∧ w' = w := by
  go_enter Yatv.func63, Yatv.ntmps63
  go_wp2
  go_loopw [3, 4] (fun i _ wr => wr = w ∧ ∃ b : Nat, i = .int .i64 b ∧ b ≤ s.size ∧ validB (s.data.toList.drop b) = validB s.data.toList) (fun i _ _ => s.size - (intOf i).toNat)
  case atStart => exact ⟨rfl, 0, rfl, Nat.zero_le _, rfl⟩
  case round =>
    obtain ⟨rfl, b, rfl, hb, hr⟩ := hrel
    have HR := hid hr
    clear hr
    by_cases hlt : b < s.size
    · have hd := drop_cons s b hlt
      have HD : Hid (validB s.data.toList = (decide (97 ≤ s[b].toNat ∧ s[b].toNat ≤ 122) && validB (s.data.toList.drop (b + 1)))) := by
        show _ = _
        rw [← HR.out, hd, validB_cons]
      clear hd HR
      have h256 : s[b].toNat < 256 := s[b].toNat_lt
      by_cases h1 : s[b].toNat < 97
      · have h1' : (s[b].toNat : Int) < 97 := by omega
        go_wp2
        go_ret
        rw [HD.out]
        refine ⟨?_, rfl⟩
        simp
        omega
      · have h1' : ¬ (s[b].toNat : Int) < 97 := by omega
        by_cases h2 : 122 < s[b].toNat
        · have h2' : (122 : Int) < (s[b].toNat : Int) := by omega
          go_wp2
          go_ret
          rw [HD.out]
          refine ⟨?_, rfl⟩
          simp
          omega
        · have h2' : ¬ (122 : Int) < (s[b].toNat : Int) := by omega
          go_wp2
          go_roundw
          case rel =>
            refine ⟨by trivial, b + 1, by go_num, by omega, ?_⟩
            rw [HD.out]
            have : (97 ≤ s[b].toNat ∧ s[b].toNat ≤ 122) := by omega
            simp [this]
          case measure => simp [intOf]; omega
    · go_wp2
      go_ret
      have : s.data.toList.drop b = [] := List.drop_of_length_le (by simp; omega)
      rw [← HR.out, this]
      exact ⟨rfl, rfl⟩




end Go.Proofs.Ymwhat
