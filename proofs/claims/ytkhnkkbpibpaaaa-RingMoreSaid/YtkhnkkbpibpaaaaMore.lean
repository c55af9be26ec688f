/- RingMore returns true in every world, for every input; its arguments read behind the call as before. No conditions beyond those of the row. -/
import Derived.Test.YtkhnkkbpibpaaaaWorks
import Derived.Test.YtkhnkkbpibpaaaaMore1
import Derived.Test.YtkhnkkbpibpaaaaRows
import Derived.WalkKit
import Derived.ProofKit
import Derived.OpenShut
namespace Go.Proofs.Ytkhnkkbpibpaaaa.ringMore
open Go.ChangeShapes Go.WideShapes Go.ChangeAt Go.RowKit
set_option linter.unusedVariables false

theorem own : ownKnob Try.prog.godebug = none := by kernel_rfl

theorem known_none : Rg.OK (Ab.knownO 9) := fun f args h hf => by
  unfold Ab.knownO
  have : Nat.beq f 9 = false := by rw [← Bool.not_eq_true, Nat.beq_eq]; exact hf
  rw [this]

theorem walk {zs : List Nat} (hl : zs.length = 26) (hz : ∀ z ∈ zs, z < 256) {a b : Nat} (ha : a < 256) (hb : b < 256) (w : World) :
    Calls Try.prog 6 #[.agg (Ab.u8V zs).toArray, .int .u8 (a : Int), .int .u8 (b : Int)] w fun e w' => e = .returned (.bool true) ∧ Below w.heap.size w w' := by
  obtain ⟨f, k, by_, hB, he⟩ := Rg.lay_of hl hz
  have hc := Rg.more_cl (h := Ab.AH.none 1) known_none (fun _ => rfl) Ab.WF.none hB ha hb
  rw [he] at hc
  exact Ab.calls_of_cl (Ab.knownO_ok works_says) Ab.knownO_next mixed named hc (.cons (.agg (Ab.u8_rel _ zs)) (.cons (.int _ _) (.cons (.int _ _) .nil))) w

set_option maxRecDepth 100000 in
theorem lifted (os : Os) (started : os.Started) (H : Type) (enc : TypeId × Value → H) :
    ReturnsInHanded {} Try.checked os 6 .any (Rows.ringMoreSpec.pre6 enc Try.prog Try.f6 Rows.ringMoreRow.domain false) (Rows.ringMoreSpec.post enc Try.prog Try.f6 false true false false) := by
  refine returnsInHanded_of_change (C := Try.checked) own started (by kernel_rfl) Try.func6
    (ChangeSpec.witness6 (enc := enc) (C := Try.checked) false ⟨#[], #[.agg ((List.replicate 26 (.int .u8 0)).toArray), .int .u8 0, .int .u8 0], []⟩ 8 (by kernel_rfl) (by kernel_rfl) (by kernel_rfl) (by kernel_rfl)) ?_
  intro W base args ds gs before hval0 hW hcnd _
  have hval : ∀ (j : Nat) t v, Try.f6.params[j]? = some t → args[j]? = some v → Value.okWide Try.prog W .any base t v := hval0
  have hW' := hW
  obtain ⟨p, q, hA0, hV, rfl, hfz, hnd⟩ := hW
  have hA : DataW.TrodAll enc Try.prog W 0 (fun _ => true) true Try.f6.params.toList args.toList ds p := hA0
  rw [Try.params6] at hA hval
  obtain ⟨v0, v1, v2, d0, d1, d2, p0, p1, p2, rfl, rfl, rfl, h0, h1, h2⟩ := trodAll_three hA
  obtain ⟨rfl, rfl⟩ := trodVars_none hV
  obtain ⟨zs, rfl, hl, hz, rfl, s0⟩ := Ab.open_parts (n := 8) (N := 26) (by kernel_rfl) (by kernel_rfl) (okWide_struct Try.underlying39 (hval 0 39 v0 rfl rfl)) h0
  obtain ⟨a, rfl, ha, rfl, s1⟩ := Ab.open_byte Try.underlying5 (hval 1 5 v1 rfl rfl) h1
  obtain ⟨b, rfl, hb, rfl, s2⟩ := Ab.open_byte Try.underlying5 (hval 2 5 v2 rfl rfl) h2
  clear hA0 hval0
  simp only [List.append_nil] at hW'
  refine (walk hl hz ha hb W).mono fun e W' ⟨he, hg⟩ => ?_
  subst he
  exact ⟨_, rfl, [d0, d1, d2], [], [], [], [], [], hW', trodAll_cons_mk (shut_bool Try.underlying4 _) trodAll_mk0, trodAll_cons_mk (s0 W' _ _ _) (trodAll_cons_mk (s1 W' _ _ _) (trodAll_cons_mk (s2 W' _ _ _) trodAll_mk0)), rfl, hg.frame _, fun h => by cases h⟩

theorem over : Rows.ringMoreRow.holds Try.pinned (OpenSpec.ofChange Rows.ringMoreSpec) :=
  OpenClaim.holds_of_wide 6 Try.f6 rfl rfl rfl rfl rfl rfl rfl ⟨rfl, rfl, rfl, rfl, rfl⟩ rfl rfl rfl rfl rfl (by kernel_rfl) Try.func6 (by kernel_rfl)
    (of_decide_eq_true (by kernel_rfl)) (by unfold Func.isWrapper; first | (rw [if_pos (by decide +kernel)]; kernel_rfl) | (rw [if_neg (by decide +kernel)]; exact ⟨rfl, rfl⟩))
    (fun os started H enc _ => lifted os started H enc)

/-- The statement. -/
theorem proved : Rows.RingMoreSaid := over
#print axioms proved
end Go.Proofs.Ytkhnkkbpibpaaaa.ringMore
