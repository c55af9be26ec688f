/- ShareAlike returns true in every world, for every input; its arguments read behind the call as before. No conditions beyond those of the row. -/
import Derived.Test.YtllldiokcnheiaaWorks
import Derived.Test.YtllldiokcnheiaaShC
import Derived.Test.YtllldiokcnheiaaRows
import Derived.WalkKit
import Derived.ProofKit
import Derived.OpenShut
namespace Go.Proofs.Ytllldiokcnheiaa.shareAlike
open Go.ChangeShapes Go.WideShapes Go.ChangeAt Go.RowKit
set_option linter.unusedVariables false

theorem own : ownKnob Try.prog.godebug = none := by kernel_rfl

theorem heap_of {zs : List Nat} (h : zs.length = 26) (hz : ∀ z ∈ zs, z < 256) : ∃ f t ys, Sh.HBytes f t ys ∧ Sh.heapCells f t ys = Ab.u8A zs := by
  match zs, h with
  | f :: t :: r, h => exact ⟨f, t, r, ⟨hz f (by simp), hz t (by simp), by simp at h; omega, fun z hz' => hz z (by simp [hz'])⟩, rfl⟩

theorem walk {zs ys : List Nat} (hl : zs.length = 26) (hz : ∀ z ∈ zs, z < 256) (hl' : ys.length = 6) (hy : ∀ z ∈ ys, z < 256) (w : World) :
    Calls Try.prog 3 #[.agg (Ab.u8V zs).toArray, .agg (Ab.u8V ys).toArray] w fun e w' => e = .returned (.bool true) ∧ Below w.heap.size w w' := by
  obtain ⟨f, t, xs, hB, he⟩ := heap_of hl hz
  have hc := Sh.alike_cl (h := Ab.AH.none 1) (known_none 8) (fun _ => rfl) Ab.WF.none hB hl' hy
  rw [he] at hc
  exact Ab.calls_of_cl (Ab.knownO_ok works_says) Ab.knownO_next mixed named hc (.cons (.agg (Ab.u8_rel _ zs)) (.cons (.agg (Ab.u8_rel _ ys)) .nil)) w

set_option maxRecDepth 100000 in
theorem lifted (os : Os) (started : os.Started) (H : Type) (enc : TypeId × Value → H) :
    ReturnsInHanded {} Try.checked os 3 .any (Rows.shareAlikeSpec.pre6 enc Try.prog Try.f3 Rows.shareAlikeRow.domain false) (Rows.shareAlikeSpec.post enc Try.prog Try.f3 false true false false) := by
  refine returnsInHanded_of_change (C := Try.checked) own started (by kernel_rfl) Try.func3
    (ChangeSpec.witness6 (enc := enc) (C := Try.checked) false ⟨#[], #[.agg ((List.replicate 26 (.int .u8 0)).toArray), .agg ((List.replicate 6 (.int .u8 0)).toArray)], []⟩ 8 (by kernel_rfl) (by kernel_rfl) (by kernel_rfl) (by kernel_rfl)) ?_
  intro W base args ds gs before hval0 hW hcnd _
  have hval : ∀ (j : Nat) t v, Try.f3.params[j]? = some t → args[j]? = some v → Value.okWide Try.prog W .any base t v := hval0
  have hW' := hW
  obtain ⟨p, q, hA0, hV, rfl, hfz, hnd⟩ := hW
  have hA : DataW.TrodAll enc Try.prog W 0 (fun _ => true) true Try.f3.params.toList args.toList ds p := hA0
  rw [Try.params3] at hA hval
  obtain ⟨v0, v1, d0, d1, p0, p1, rfl, rfl, rfl, h0, h1⟩ := trodAll_two hA
  obtain ⟨rfl, rfl⟩ := trodVars_none hV
  obtain ⟨zs, rfl, hl, hz, rfl, s0⟩ := Ab.open_parts (n := 8) (N := 26) (by kernel_rfl) (by kernel_rfl) (okWide_struct Try.underlying25 (hval 0 25 v0 rfl rfl)) h0
  obtain ⟨ys, rfl, hl', hy, rfl, s1⟩ := Ab.open_parts (n := 8) (N := 6) (by kernel_rfl) (by kernel_rfl) (Ab.okWide_arr Try.underlying22 (hval 1 22 v1 rfl rfl)) h1
  clear hA0 hval0
  simp only [List.append_nil] at hW'
  refine (walk hl hz hl' hy W).mono fun e W' ⟨he, hg⟩ => ?_
  subst he
  exact ⟨_, rfl, [d0, d1], [], [], [], [], [], hW', trodAll_cons_mk (shut_bool Try.underlying4 _) trodAll_mk0, trodAll_cons_mk (s0 W' _ _ _) (trodAll_cons_mk (s1 W' _ _ _) trodAll_mk0), rfl, hg.frame _, fun h => by cases h⟩

theorem over : Rows.shareAlikeRow.holds Try.pinned (OpenSpec.ofChange Rows.shareAlikeSpec) :=
  OpenClaim.holds_of_wide 3 Try.f3 rfl rfl rfl rfl rfl rfl rfl ⟨rfl, rfl, rfl, rfl, rfl⟩ rfl rfl rfl rfl rfl (by kernel_rfl) Try.func3 (by kernel_rfl)
    (of_decide_eq_true (by kernel_rfl)) (by unfold Func.isWrapper; first | (rw [if_pos (by decide +kernel)]; kernel_rfl) | (rw [if_neg (by decide +kernel)]; exact ⟨rfl, rfl⟩))
    (fun os started H enc _ => lifted os started H enc)

/-- The statement. -/
theorem proved : Rows.ShareAlikeSaid := over
#print axioms proved
end Go.Proofs.Ytllldiokcnheiaa.shareAlike
