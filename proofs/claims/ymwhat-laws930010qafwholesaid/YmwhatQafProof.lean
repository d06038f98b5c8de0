import Derived.Test.YmwhatRows
import Derived.Test.YmwhatQaf
import Derived.Test.YmwhatOpen
set_option linter.unusedVariables false
set_option linter.unusedSimpArgs false
namespace Go.Proofs.Ymwhat
open Go.ChangeShapes Go.WideShapes Go.ChangeAt Go.RowKit Go.Deep
open Go.WideMaps Go.WideElems
open Go.ChangeMaps (open_string shut_string)

theorem qaf_own : ownKnob Yatv.prog.godebug = none := by kernel_rfl
theorem qaf_laidOut : laidOutB Yatv.prog = true := by kernel_rfl
theorem qaf_cellsE : Yatv.prog.cellsOf 62 = 2 := by kernel_rfl
theorem qaf_cells0 : Yatv.prog.cellsOf 5 = 1 := by kernel_rfl
theorem qaf_cells1 : Yatv.prog.cellsOf 60 = 1 := by kernel_rfl

/-- A []byte that came in. -/
theorem open_bytes {H : Type} {enc : TypeId × Value → H} {w : World} {base : Nat} {held : Bool} {fuel : Nat} {v : Value} {x : DataW H × List MemPlace} (h : DataW.trod enc Yatv.prog w base (fun _ => true) held fuel 60 [v] = some x) :
    ∃ l : List UInt8, l.length ≤ maxLen ∧ BytesIn w v l := by
  rcases open_slice1 Yatv.underlying60 qaf_cells0 h with ⟨h0, _⟩ | ⟨a, len, cap, m, n, Vv, D, Pl, hcs, hb, hl, hm, hmm, rfl, hx⟩
  · simp at h0
    exact ⟨[], Nat.zero_le _, none, 0, h0, fun h => absurd h (Nat.lt_irrefl _)⟩
  · simp at hcs
    simp only [if_true] at hmm
    have each : ∀ i, i < len → ∃ z : UInt8, w.cell? (a.add i) = some (.int .u8 z.toNat) := fun i hi => by
      obtain ⟨h1, h2⟩ := hx i (by omega)
      obtain ⟨y, hy, _, hwf⟩ := DataW.trod_int Yatv.underlying5 h2
      have hbd := u8_bounds hwf
      simp at hy
      refine ⟨UInt8.ofNat y.toNat, ?_⟩
      rw [h1, hy]
      congr 2
      rw [UInt8.toNat_ofNat']
      omega
    obtain ⟨f, hf⟩ := choose_lt each
    refine ⟨(List.range len).map f, by simp; omega, some a, cap, by simp [hcs], fun hpos => ?_⟩
    simp only [List.length_map, List.length_range] at hpos
    obtain ⟨b, off, spot⟩ := a
    have hu := hf 0 hpos
    have hspot : spot = none := by simpa [Addr.add] using World.cell?_spot hu
    subst hspot
    refine ⟨b, off, rfl, ?_, fun i hi => ?_⟩
    · have := World.block_lt_of_cell? _ _ hu
      simpa [Addr.add] using this
    · simp only [List.length_map, List.length_range] at hi
      have := hf i hi
      rw [add_plain] at this
      simpa using this

set_option maxRecDepth 100000 in
theorem qaf_lifted (os : Os) (started : os.Started) (H : Type) (enc : TypeId × Value → H) :
    ReturnsInHanded {} Yatv.checked os 6 .any (Rows.lawS930010QAFWholeSpec.pre6 enc Yatv.prog Yatv.f6 Rows.lawS930010QAFWholeRow.domain false) (Rows.lawS930010QAFWholeSpec.post enc Yatv.prog Yatv.f6 false true false false) := by
  refine returnsInHanded_of_change (C := Yatv.checked) qaf_own started (by kernel_rfl) Yatv.func6
    (ChangeSpec.witness6 (enc := enc) (C := Yatv.checked) false ⟨#[], #[.slice none 0 0, .string ByteArray.empty, .int .u8 0], []⟩ 8 (by kernel_rfl) (by kernel_rfl) (by kernel_rfl) (by kernel_rfl)) ?_
  intro W base args ds gs before hval0 hW hcnd _
  have hval : ∀ (j : Nat) t v, Yatv.f6.params[j]? = some t → args[j]? = some v → Value.okWide Yatv.prog W .any base t v := hval0
  have hW' := hW
  obtain ⟨p, q, hA0, hV, rfl, hfz, hnd⟩ := hW
  have hA : DataW.TrodAll enc Yatv.prog W 0 (fun _ => true) true Yatv.f6.params.toList args.toList ds p := hA0
  rw [Yatv.params6] at hA hval
  obtain ⟨v0, v1, v2, d0, d1, d2, p0, p1, p2, rfl, rfl, rfl, h0, h1, h2⟩ := trodAll_three hA
  obtain ⟨rfl, rfl⟩ := trodVars_none hV
  obtain ⟨s, rfl, rfl, rfl, hs⟩ := open_string Yatv.underlying9 (hval 1 9 v1 rfl rfl) h1
  obtain ⟨bq, rfl, rfl, rfl, hbq⟩ := open_int Yatv.underlying5 (hval 2 5 v2 rfl rfl) h2
  clear hA0 hval0
  simp only [List.append_nil] at hW'
  have hlt : ∀ x ∈ p0, x.block < W.heap.size := fun x hx => hW'.lt x (by simp [hx])
  have h0k := h0
  obtain ⟨a0, len0, cap0, rfl⟩ := okWide_slice Yatv.underlying59 (hval 0 59 v0 rfl rfl)
  obtain ⟨fuel, hf⟩ := h0
  obtain ⟨ao, len, cap, n, hv, hlen, hel⟩ := open_pairs Yatv.underlying59 Yatv.underlying62 qaf_cellsE rfl rfl qaf_cells0 qaf_cells1 (by simpa [Value.cells] using hf)
  obtain ⟨rfl, rfl, rfl⟩ : a0 = ao ∧ len0 = len ∧ cap0 = cap := by simpa using hv
  have hsz : ∀ i, i < len0 → ∃ q : Int × Value × List UInt8, (0 ≤ q.1 ∧ q.1 ≤ 255) ∧ q.2.2.length ≤ maxLen ∧ BytesIn W q.2.1 q.2.2 ∧ ∀ b off, a0 = some ⟨b, off, none⟩ → W.cell? ⟨b, off + i * 2, none⟩ = some (.int .u8 q.1) ∧ W.cell? ⟨b, off + i * 2 + 1, none⟩ = some q.2.1 := fun i hi => by
    obtain ⟨b, off, rfl, hb, hc⟩ := hel (by omega)
    obtain ⟨u0, u1, y0, y1, q1, q2, q3, q4⟩ := hc i hi
    obtain ⟨x, hx, _, hwf⟩ := DataW.trod_int Yatv.underlying5 q3
    obtain ⟨l, hll, hbi⟩ := open_bytes q4
    simp at hx
    subst hx
    exact ⟨(x, u1, l), u8_bounds hwf, hll, hbi, fun b' off' e => by simp at e; obtain ⟨rfl, rfl⟩ := e; exact ⟨q1, q2⟩⟩
  obtain ⟨g, hg⟩ := choose_lt hsz
  have hops : OpsB W a0 len0 (fun i => (g i).1) (fun i => (g i).2.1) := fun hpos => by
    obtain ⟨b, off, e, hb, _⟩ := hel hpos
    exact ⟨b, off, e, hb, fun i hi => (hg i hi).2.2.2 b off e⟩
  unfold maxLen at hlen hs
  have hbk := u8_bounds hbq
  have hpk : bq = ((bq.toNat : Nat) : Int) := (Int.toNat_of_nonneg hbk.1).symm
  have hwk := qaf_walk a0 len0 cap0 (fun i => (g i).1) (fun i => (g i).2.1) (fun i => (g i).2.2) s bq.toNat W hlen hs (fun i hi => by have := (hg i hi).2.1; unfold maxLen at this; exact this) hops (fun i hi => (hg i hi).2.2.1) (fun i hi => (hg i hi).1.1) (fun i hi => (hg i hi).1.2) (by omega)
  rw [← hpk] at hwk
  refine hwk.mono fun e W' ⟨he, hnx⟩ => ?_
  subst he
  refine ⟨_, rfl, _, _, _, [], p0 ++ ([] ++ []), [], hW', ?_, ?_, rfl, hnx.frame _, fun h => by cases h⟩
  · exact trodAll_mk1 (shut_bool Yatv.underlying4 true)
  · exact trodAll_mk3 (Below.trod qaf_laidOut (by kernel_rfl) (of_decide_eq_true (by kernel_rfl)) h0k hnx hlt) (shut_string Yatv.underlying9 hs) (shut_int Yatv.underlying5 hbq)

theorem qaf_holds : Rows.LawS930010QAFWholeSaid :=
  OpenClaim.holds_of_wide 6 Yatv.f6 rfl rfl rfl rfl rfl rfl rfl ⟨rfl, rfl, rfl, rfl, rfl⟩ rfl rfl rfl rfl rfl (by kernel_rfl) Yatv.func6 (by kernel_rfl)
    (of_decide_eq_true (by kernel_rfl)) (by unfold Func.isWrapper; rw [if_neg (of_decide_eq_false (by kernel_rfl))]; exact ⟨rfl, rfl⟩)
    (fun os started H enc _ => qaf_lifted os started H enc)

end Go.Proofs.Ymwhat
