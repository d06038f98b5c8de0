import Derived.Test.YmwhatRows
import Derived.Test.YmwhatQah
import Derived.Test.YmwhatOpen
set_option linter.unusedVariables false
set_option linter.unusedSimpArgs false
namespace Go.Proofs.Ymwhat
open Go.ChangeShapes Go.WideShapes Go.ChangeAt Go.RowKit Go.Deep
open Go.WideMaps Go.WideElems
open Go.ChangeMaps (open_string shut_string)

theorem qah_own : ownKnob Yatv.prog.godebug = none := by kernel_rfl
theorem qah_laidOut : laidOutB Yatv.prog = true := by kernel_rfl
theorem qah_cellsE : Yatv.prog.cellsOf 66 = 2 := by kernel_rfl
theorem qah_cells0 : Yatv.prog.cellsOf 5 = 1 := by kernel_rfl
theorem qah_cells1 : Yatv.prog.cellsOf 9 = 1 := by kernel_rfl

set_option maxRecDepth 100000 in
theorem qah_lifted (os : Os) (started : os.Started) (H : Type) (enc : TypeId × Value → H) :
    ReturnsInHanded {} Yatv.checked os 7 .any (Rows.lawS930010QAHWholeSpec.pre6 enc Yatv.prog Yatv.f7 Rows.lawS930010QAHWholeRow.domain false) (Rows.lawS930010QAHWholeSpec.post enc Yatv.prog Yatv.f7 false true false false) := by
  refine returnsInHanded_of_change (C := Yatv.checked) qah_own started (by kernel_rfl) Yatv.func7
    (ChangeSpec.witness6 (enc := enc) (C := Yatv.checked) false ⟨#[], #[.slice none 0 0, .string ByteArray.empty, .bool false], []⟩ 8 (by kernel_rfl) (by kernel_rfl) (by kernel_rfl) (by kernel_rfl)) ?_
  intro W base args ds gs before hval0 hW hcnd _
  have hval : ∀ (j : Nat) t v, Yatv.f7.params[j]? = some t → args[j]? = some v → Value.okWide Yatv.prog W .any base t v := hval0
  have hW' := hW
  obtain ⟨p, q, hA0, hV, rfl, hfz, hnd⟩ := hW
  have hA : DataW.TrodAll enc Yatv.prog W 0 (fun _ => true) true Yatv.f7.params.toList args.toList ds p := hA0
  rw [Yatv.params7] at hA hval
  obtain ⟨v0, v1, v2, d0, d1, d2, p0, p1, p2, rfl, rfl, rfl, h0, h1, h2⟩ := trodAll_three hA
  obtain ⟨rfl, rfl⟩ := trodVars_none hV
  obtain ⟨s, rfl, rfl, rfl, hs⟩ := open_string Yatv.underlying9 (hval 1 9 v1 rfl rfl) h1
  obtain ⟨bq, rfl, rfl, rfl⟩ := open_bool Yatv.underlying4 (hval 2 4 v2 rfl rfl) h2
  clear hA0 hval0
  simp only [List.append_nil] at hW'
  have hlt : ∀ x ∈ p0, x.block < W.heap.size := fun x hx => hW'.lt x (by simp [hx])
  have h0k := h0
  obtain ⟨a0, len0, cap0, rfl⟩ := okWide_slice Yatv.underlying65 (hval 0 65 v0 rfl rfl)
  obtain ⟨fuel, hf⟩ := h0
  obtain ⟨ao, len, cap, n, hv, hlen, hel⟩ := open_pairs Yatv.underlying65 Yatv.underlying66 qah_cellsE rfl rfl qah_cells0 qah_cells1 (by simpa [Value.cells] using hf)
  obtain ⟨rfl, rfl, rfl⟩ : a0 = ao ∧ len0 = len ∧ cap0 = cap := by simpa using hv
  have hsz : ∀ i, i < len0 → ∃ q : Int × ByteArray, (0 ≤ q.1 ∧ q.1 ≤ 255) ∧ q.2.size ≤ maxLen ∧ ∀ b off, a0 = some ⟨b, off, none⟩ → W.cell? ⟨b, off + i * 2, none⟩ = some (.int .u8 q.1) ∧ W.cell? ⟨b, off + i * 2 + 1, none⟩ = some (.string q.2) := fun i hi => by
    obtain ⟨b, off, rfl, hb, hc⟩ := hel (by omega)
    obtain ⟨u0, u1, y0, y1, q1, q2, q3, q4⟩ := hc i hi
    obtain ⟨x, hx, _, hwf⟩ := DataW.trod_int Yatv.underlying5 q3
    obtain ⟨z, hz, _, hzl⟩ := DataW.trod_string Yatv.underlying9 q4
    simp at hx hz
    subst hx; subst hz
    exact ⟨(x, z), u8_bounds hwf, hzl, fun b' off' e => by simp at e; obtain ⟨rfl, rfl⟩ := e; exact ⟨q1, q2⟩⟩
  obtain ⟨g, hg⟩ := choose_lt hsz
  have hops : OpsIn W a0 len0 (fun i => .int .u8 (g i).1) (fun i => (g i).2) := fun hpos => by
    obtain ⟨b, off, e, hb, _⟩ := hel hpos
    exact ⟨b, off, e, hb, fun i hi => (hg i hi).2.2 b off e⟩
  unfold maxLen at hlen hs
  refine (qah_walk a0 len0 cap0 (fun i => (g i).1) (fun i => (g i).2) s bq W hlen hs (fun i hi => by have := (hg i hi).2.1; unfold maxLen at this; exact this) hops (fun i hi => (hg i hi).1.1) (fun i hi => (hg i hi).1.2)).mono fun e W' ⟨he, hnx⟩ => ?_
  subst he
  refine ⟨_, rfl, _, _, _, [], p0 ++ ([] ++ []), [], hW', ?_, ?_, rfl, hnx.frame _, fun h => by cases h⟩
  · exact trodAll_mk1 (shut_bool Yatv.underlying4 true)
  · exact trodAll_mk3 (Below.trod qah_laidOut (by kernel_rfl) (of_decide_eq_true (by kernel_rfl)) h0k hnx hlt) (shut_string Yatv.underlying9 hs) (shut_bool Yatv.underlying4 bq)

theorem qah_holds : Rows.LawS930010QAHWholeSaid :=
  OpenClaim.holds_of_wide 7 Yatv.f7 rfl rfl rfl rfl rfl rfl rfl ⟨rfl, rfl, rfl, rfl, rfl⟩ rfl rfl rfl rfl rfl (by kernel_rfl) Yatv.func7 (by kernel_rfl)
    (of_decide_eq_true (by kernel_rfl)) (by unfold Func.isWrapper; rw [if_neg (of_decide_eq_false (by kernel_rfl))]; exact ⟨rfl, rfl⟩)
    (fun os started H enc _ => qah_lifted os started H enc)

end Go.Proofs.Ymwhat
