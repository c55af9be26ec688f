/- RingMore: its walk: for finds and one more find by numbers it returns true, where the examples are known to hold. -/
import Derived.Test.YtkhnkkbpibpaaaaSy2
import Derived.Test.YtkhnkkbpibpaaaaRgC
import Derived.Test.YtkhnkkbpibpaaaaProg

namespace Go.Proofs.Ytkhnkkbpibpaaaa.Rg
open Go.Proofs Go.Proofs.Ytkhnkkbpibpaaaa.Ab
set_option linter.unusedVariables false
set_option linter.unusedSimpArgs false
set_option maxHeartbeats 2000000
set_option maxRecDepth 100000
noncomputable section
section
variable {O : CallF} {h : AH}

/-- What is known beforehand: the examples hold. -/
def Works (O : CallF) : Prop := ∀ h, O 9 [] h = some (.bool true, h)

theorem works_cl (hW : Works O) : Cl Try.prog O 0 9 [] h (fun r h' => r = .bool true ∧ h = h') :=
  ⟨0, .bool true, h, by unfold callA callW; rw [hW h], rfl, rfl⟩

theorem ld39 (h : AH) {cs : List AV} (hl : cs.length = 26) : loadA Try.prog 39 (.ptr h.next 0) (h.new cs) = some (.agg cs) := by
  rw [OBx.loadN (M := h.next) (OBx.new (Nat.le_refl _) cs) sh39 (by omega)]
  rw [List.drop_zero, List.take_of_length_le (by omega)]

theorem layCells_length {f k : Nat} {by_ : List (Nat × Nat)} (hb : Bytes f k by_) : (layCells f k by_).length = 26 := by simp [layCells, u8P_length, hb.len]

theorem more_cl (hO : OK O) (hW : Works O) (hw : WF h) {f k : Nat} {by_ : List (Nat × Nat)} (hb : Bytes f k by_) {one two : Nat} (h1 : one < 256) (h2 : two < 256) :
    Cl Try.prog O 0 6 [.agg (layCells f k by_), .int .u8 (one : Int), .int .u8 (two : Int)] h (fun r h' => r = .bool true) := by
  have k3 := Kept.new hw (layCells f k by_)
  have hnle := madeN_le (f := f) (most := 6) (by omega)
  have hv := madeS_valid (f := f) (k := k) (by_ := by_) (most := 6) (many := 11) (by omega) (by omega) (by omega)
  have hl11 : (madeS f k by_ 6 11).length ≤ 11 := by
    unfold madeS
    have : k % (11 + 1) < 11 + 1 := Nat.mod_lt _ (by omega)
    simp; omega
  generalize hN : madeN f 6 = n at hnle hv
  generalize hS : madeS f k by_ 6 11 = S at hv hl11
  have hx := madeF_ok hnle.1 (one, two)
  have hvm : Valid n (S ++ [madeF n (one, two)]) := ⟨hv.n0, hv.n6, by simp; omega, fun x hx' => by
      rcases List.mem_append.1 hx' with hx' | hx'
      · exact hv.lt x hx'
      · rw [show x = madeF n (one, two) by simpa using hx']; exact ⟨hx.1, hx.2.1⟩, fun x hx' => by
      rcases List.mem_append.1 hx' with hx' | hx'
      · exact hv.ne x hx'
      · rw [show x = madeF n (one, two) by simpa using hx']; exact hx.2.2⟩
  have hz1 : fewF n S ≤ fewF n (S ++ [madeF n (one, two)]) := by
    rw [fewF_perm (List.perm_append_singleton _ _)]; exact few_cons_ge n _ S
  have hz2 : fewF n (S ++ [madeF n (one, two)]) ≤ fewF n S + 1 := by
    rw [fewF_perm (List.perm_append_singleton _ _)]; exact fewF_cons_le n _ S
  have hz3 : (nums (strikeIx n [] (S ++ [madeF n (one, two)]) 0)).length = fewF n (S ++ [madeF n (one, two)]) := by
    unfold nums
    rw [List.length_map, strikeIx_len, struck_eq n _ hvm.len]
  have hz4 := fewF_le n S
  have hm1 : one % n < n := Nat.mod_lt _ (by omega)
  have hm2 : two % (n - 1) < n - 1 := Nat.mod_lt _ (by omega)
  refine Cl.intro (N := 90) (K := 131023) (hO _ _ _ (by decide)) Try.func6 rfl rfl (k := 3) rfl rfl rfl (by kernel_rfl) (.cons 0 _ (.cons 1 _ (.cons 2 _ .nil))) ⟨⟨rfl, rfl⟩, ⟨rfl, rfl⟩, ⟨rfl, rfl⟩, trivial⟩ ?_
  refine EvL.seq ?_
  refine EvL.region ?_
  refine Rn.val (St.box rfl) rfl ?_
  refine Rn.val (St.assign rfl) rfl ?_
  refine Rn.done (.cons 1 _ (.cons 2 _ (.cons 3 _ .nil))) ⟨⟨rfl, rfl⟩, ⟨rfl, rfl⟩, ⟨rfl, rfl⟩, trivial⟩ ?_
  refine thenL_normal ?_
  refine EvL.seq ?_
  refine EvL.region ?_
  refine Rn.val (St.load rfl (ld39 h (layCells_length hb))) rfl ?_
  refine Rn.call rfl rfl rfl (made_cl hO k3.wf hb (most := 6) (many := 11) (by omega) (by omega) (by omega)) fun v19 h19 c19 => ?_
  obtain ⟨y, rfl, k19, o19⟩ := c19
  rw [hS] at o19
  rw [hN]
  refine Rn.val (St.move rfl) rfl ?_
  refine Rn.val (St.extract rfl rfl) rfl ?_
  refine Rn.val (St.extract rfl rfl) rfl ?_
  refine Rn.val (St.assign rfl) rfl ?_
  refine Rn.val (St.assign rfl) rfl ?_
  refine Rn.done (.cons 1 _ (.cons 2 _ (.cons 7 _ (.cons 8 _ .nil)))) ⟨⟨rfl, rfl⟩, ⟨rfl, rfl⟩, ⟨rfl, rfl⟩, ⟨rfl, rfl⟩, trivial⟩ ?_
  refine thenL_normal ?_
  refine EvL.seq ?_
  refine EvL.region ?_
  refine Rn.val (St.move rfl) rfl ?_
  refine Rn.val (St.convert rfl (conv_u8 h1)) rfl ?_
  refine Rn.val (St.move rfl) rfl ?_
  refine Rn.val (St.rem rfl rfl (by omega) (by omega)) rfl ?_
  rw [show ((one : Int) % (n : Int)) = ((one % n : Nat) : Int) from rfl]
  refine Rn.val (St.assign rfl) rfl ?_
  refine Rn.done (.cons 2 _ (.cons 7 _ (.cons 8 _ (.cons 9 _ .nil)))) ⟨⟨rfl, rfl⟩, ⟨rfl, rfl⟩, ⟨rfl, rfl⟩, ⟨rfl, rfl⟩, trivial⟩ ?_
  refine thenL_normal ?_
  refine EvL.seq ?_
  refine EvL.draw (ord := [0, 1, 2, 3, 4, 5, 6, 7, 8, 9, 10, 11, 12, 13, 14, 15, 16]) (by kernel_rfl) (by kernel_rfl) ?_
  refine Dr.val (St.move rfl) rfl rfl ?_
  refine Dr.call rfl rfl rfl rfl (clonePairs_cl hO k19.wf o19.pairs (by rw [prs_length]; omega)) fun v27 h27 c27 => ?_
  obtain ⟨k27, o27⟩ := c27
  refine Dr.val (St.move rfl) rfl rfl ?_
  refine Dr.val (St.move rfl) rfl rfl ?_
  refine Dr.val (St.add rfl rfl (by omega) (by omega)) rfl rfl ?_
  refine Dr.val (St.move rfl) rfl rfl ?_
  refine Dr.val (St.convert rfl (conv_u8 h2)) rfl rfl ?_
  refine Dr.val (St.move rfl) rfl rfl ?_
  refine Dr.val (St.sub rfl rfl (by omega) (by omega)) rfl rfl ?_
  rw [show (n : Int) - 1 = ((n - 1 : Nat) : Int) by omega]
  refine Dr.val (St.rem rfl rfl (by omega) (by omega)) rfl rfl ?_
  rw [show ((two : Int) % ((n - 1 : Nat) : Int)) = ((two % (n - 1) : Nat) : Int) from rfl]
  refine Dr.val (St.add rfl rfl (by omega) (by omega)) rfl rfl ?_
  refine Dr.val (St.move rfl) rfl rfl ?_
  refine Dr.val (St.rem rfl rfl (by omega) (by omega)) rfl rfl ?_
  refine Dr.val (St.build rfl (build44 _ _)) rfl rfl ?_
  refine Dr.val (St.buildSlice rfl (one_slice ap22 rfl rfl (by decide))) rfl rfl ?_
  obtain ⟨v41, h41, e41, kb41, o41⟩ := OPairs.push (P := Try.prog) (t := 22) (x := ((madeF n (one, two)).1 : Int)) (y := ((madeF n (one, two)).2 : Int)) k27.wf ap22 o27 (by rw [prs_length]; omega) k19.wf.pos k27.next
  refine Dr.val (St.append rfl rfl e41) rfl rfl ?_
  have k41 := (k27.keepB.trans kb41).kept k19.wf
  have o19 := o19.keep k41.keep
  have eM : prs S ++ [(((madeF n (one, two)).1 : Int), ((madeF n (one, two)).2 : Int))] = prs (S ++ [madeF n (one, two)]) := by unfold prs; rw [List.map_append]; rfl
  rw [eM] at o41
  refine Dr.val (St.assign rfl) rfl rfl ?_
  refine Dr.done (.cons 7 _ (.cons 8 _ (.cons 10 _ .nil))) ⟨⟨rfl, rfl⟩, ⟨rfl, rfl⟩, ⟨rfl, rfl⟩, trivial⟩ (LoadsP.pass rfl rfl (LoadsP.pass rfl rfl (LoadsP.pass rfl rfl (LoadsP.pass rfl rfl (LoadsP.pass rfl rfl (LoadsP.pass rfl rfl (LoadsP.pass rfl rfl (LoadsP.pass rfl rfl (LoadsP.pass rfl rfl (LoadsP.pass rfl rfl (LoadsP.pass rfl rfl (LoadsP.pass rfl rfl (LoadsP.pass rfl rfl (LoadsP.pass rfl rfl (LoadsP.pass rfl rfl (LoadsP.pass rfl rfl (LoadsP.pass rfl rfl (LoadsP.nil)))))))))))))))))) ?_
  refine thenL_normal ?_
  refine EvL.seq ?_
  refine EvL.region ?_
  refine Rn.val (St.move rfl) rfl ?_
  refine Rn.val (St.move rfl) rfl ?_
  refine Rn.call rfl rfl rfl (fewest_cl hO k41.wf o19.pairs hv) fun v45 h45 c45 => ?_
  obtain ⟨rfl, k45⟩ := c45
  have o41 := o41.keep k45.keep
  refine Rn.val (St.move rfl) rfl ?_
  refine Rn.val (St.extract rfl rfl) rfl ?_
  refine Rn.val (St.extract rfl rfl) rfl ?_
  refine Rn.val (St.assign rfl) rfl ?_
  refine Rn.val (St.assign rfl) rfl ?_
  refine Rn.done (.cons 7 _ (.cons 10 _ (.cons 11 _ (.cons 12 _ .nil)))) ⟨⟨rfl, rfl⟩, ⟨rfl, rfl⟩, ⟨rfl, rfl⟩, ⟨rfl, rfl⟩, trivial⟩ ?_
  refine thenL_normal ?_
  refine EvL.seq ?_
  refine EvL.region ?_
  refine Rn.val (St.move rfl) rfl ?_
  refine Rn.val (St.move rfl) rfl ?_
  refine Rn.call rfl rfl rfl (fewest_cl hO k45.wf o41.pairs hvm) fun v51 h51 c51 => ?_
  obtain ⟨rfl, k51⟩ := c51
  have o41 := o41.keep k51.keep
  refine Rn.val (St.move rfl) rfl ?_
  refine Rn.val (St.extract rfl rfl) rfl ?_
  refine Rn.val (St.extract rfl rfl) rfl ?_
  refine Rn.val (St.assign rfl) rfl ?_
  refine Rn.val (St.assign rfl) rfl ?_
  refine Rn.done (.cons 7 _ (.cons 10 _ (.cons 11 _ (.cons 12 _ (.cons 13 _ (.cons 14 _ .nil)))))) ⟨⟨rfl, rfl⟩, ⟨rfl, rfl⟩, ⟨rfl, rfl⟩, ⟨rfl, rfl⟩, ⟨rfl, rfl⟩, ⟨rfl, rfl⟩, trivial⟩ ?_
  refine thenL_normal ?_
  refine EvL.seq ?_
  refine EvL.region ?_
  refine Rn.val (St.move rfl) rfl ?_
  refine Rn.val (St.move rfl) rfl ?_
  refine Rn.call rfl rfl rfl (strike_cl hO k51.wf o41.pairs hvm) fun v57 h57 c57 => ?_
  obtain ⟨z, rfl, k57, i57⟩ := c57
  refine Rn.val (St.move rfl) rfl ?_
  refine Rn.val (St.extract rfl rfl) rfl ?_
  refine Rn.val (St.extract rfl rfl) rfl ?_
  refine Rn.val (St.assign rfl) rfl ?_
  refine Rn.val (St.assign rfl) rfl ?_
  refine Rn.done (.cons 11 _ (.cons 12 _ (.cons 13 _ (.cons 14 _ (.cons 15 _ (.cons 16 _ .nil)))))) ⟨⟨rfl, rfl⟩, ⟨rfl, rfl⟩, ⟨rfl, rfl⟩, ⟨rfl, rfl⟩, ⟨rfl, rfl⟩, ⟨rfl, rfl⟩, trivial⟩ ?_
  refine thenL_normal ?_
  refine EvL.seq ?_
  refine EvL.region ?_
  refine Rn.val (St.move rfl) rfl ?_
  refine Rn.val (St.eql rfl rfl) rfl ?_
  refine Rn.val (St.move rfl) rfl ?_
  refine Rn.split (tg := 62) rfl (fun g62 => ?_) (fun g62 => ?_)
  · try simp only [decide_eq_true_eq, decide_eq_false_iff_not, Bool.not_eq_true', Bool.not_eq_false', Bool.not_true, Bool.not_false] at g62
    refine Rn.guardT (tg := 62) rfl rfl ?_
    refine Rn.val (St.move rfl) rfl ?_
    refine Rn.guardT (tg := 62) rfl rfl ?_
    refine Rn.val (St.eql rfl rfl) rfl ?_
    refine Rn.val (St.pickT rfl rfl rfl) rfl ?_
    refine Rn.val (St.move rfl) rfl ?_
    refine Rn.split (tg := 66) rfl (fun g66 => ?_) (fun g66 => ?_)
    · try simp only [decide_eq_true_eq, decide_eq_false_iff_not, Bool.not_eq_true', Bool.not_eq_false', Bool.not_true, Bool.not_false] at g66
      refine Rn.guardT (tg := 66) rfl rfl ?_
      refine Rn.val (St.move rfl) rfl ?_
      refine Rn.guardT (tg := 66) rfl rfl ?_
      refine Rn.val (St.eql rfl rfl) rfl ?_
      refine Rn.val (St.pickT rfl rfl rfl) rfl ?_
      refine Rn.val (St.move rfl) rfl ?_
      refine Rn.split (tg := 70) rfl (fun g70 => ?_) (fun g70 => ?_)
      · try simp only [decide_eq_true_eq, decide_eq_false_iff_not, Bool.not_eq_true', Bool.not_eq_false', Bool.not_true, Bool.not_false] at g70
        refine Rn.guardT (tg := 70) rfl rfl ?_
        refine Rn.val (St.move rfl) rfl ?_
        refine Rn.guardT (tg := 70) rfl rfl ?_
        refine Rn.val (St.move rfl) rfl ?_
        refine Rn.guardT (tg := 70) rfl rfl ?_
        refine Rn.val (St.geq rfl rfl) rfl ?_
        refine Rn.val (St.pickT rfl rfl rfl) rfl ?_
        refine Rn.val (St.move rfl) rfl ?_
        refine Rn.split (tg := 75) rfl (fun g75 => ?_) (fun g75 => ?_)
        · try simp only [decide_eq_true_eq, decide_eq_false_iff_not, Bool.not_eq_true', Bool.not_eq_false', Bool.not_true, Bool.not_false] at g75
          refine Rn.guardT (tg := 75) rfl rfl ?_
          refine Rn.val (St.move rfl) rfl ?_
          refine Rn.guardT (tg := 75) rfl rfl ?_
          refine Rn.val (St.move rfl) rfl ?_
          refine Rn.guardT (tg := 75) rfl rfl ?_
          refine Rn.val (St.add rfl rfl (by omega) (by omega)) rfl ?_
          refine Rn.guardT (tg := 75) rfl rfl ?_
          refine Rn.val (St.leq rfl rfl) rfl ?_
          refine Rn.val (St.pickT rfl rfl rfl) rfl ?_
          refine Rn.val (St.move rfl) rfl ?_
          refine Rn.split (tg := 81) rfl (fun g81 => ?_) (fun g81 => ?_)
          · try simp only [decide_eq_true_eq, decide_eq_false_iff_not, Bool.not_eq_true', Bool.not_eq_false', Bool.not_true, Bool.not_false] at g81
            refine Rn.guardT (tg := 81) rfl rfl ?_
            refine Rn.val (St.move rfl) rfl ?_
            refine Rn.guardT (tg := 81) rfl rfl ?_
            refine Rn.val (St.len rfl (i57.len u23)) rfl ?_
            refine Rn.guardT (tg := 81) rfl rfl ?_
            refine Rn.val (St.move rfl) rfl ?_
            refine Rn.guardT (tg := 81) rfl rfl ?_
            refine Rn.val (St.eql rfl rfl) rfl ?_
            refine Rn.val (St.pickT rfl rfl rfl) rfl ?_
            refine Rn.val (St.move rfl) rfl ?_
            refine Rn.split (tg := 87) rfl (fun g87 => ?_) (fun g87 => ?_)
            · try simp only [decide_eq_true_eq, decide_eq_false_iff_not, Bool.not_eq_true', Bool.not_eq_false', Bool.not_true, Bool.not_false] at g87
              refine Rn.guardT (tg := 87) rfl rfl ?_
              refine Rn.call rfl rfl rfl (works_cl hW) fun v88 h88 c88 => ?_
              obtain ⟨rfl, rfl⟩ := c88
              refine Rn.val (St.pickT rfl rfl rfl) rfl ?_
              refine Rn.val (St.assign rfl) rfl ?_
              refine Rn.done (.cons 6 _ .nil) ⟨⟨rfl, rfl⟩, trivial⟩ ?_
              refine thenL_normal ?_
              refine EvL.ret ?_
              refine endL_ret rfl ?_
              exact rfl
            · try simp only [decide_eq_true_eq, decide_eq_false_iff_not, Bool.not_eq_true', Bool.not_eq_false', Bool.not_true, Bool.not_false] at g87
              omega
          · try simp only [decide_eq_true_eq, decide_eq_false_iff_not, Bool.not_eq_true', Bool.not_eq_false', Bool.not_true, Bool.not_false] at g81
            omega
        · try simp only [decide_eq_true_eq, decide_eq_false_iff_not, Bool.not_eq_true', Bool.not_eq_false', Bool.not_true, Bool.not_false] at g75
          omega
      · try simp only [decide_eq_true_eq, decide_eq_false_iff_not, Bool.not_eq_true', Bool.not_eq_false', Bool.not_true, Bool.not_false] at g70
        first | exact absurd rfl g70 | exact absurd trivial g70
    · try simp only [decide_eq_true_eq, decide_eq_false_iff_not, Bool.not_eq_true', Bool.not_eq_false', Bool.not_true, Bool.not_false] at g66
      first | exact absurd rfl g66 | exact absurd trivial g66
  · try simp only [decide_eq_true_eq, decide_eq_false_iff_not, Bool.not_eq_true', Bool.not_eq_false', Bool.not_true, Bool.not_false] at g62
    first | exact absurd rfl g62 | exact absurd trivial g62

end
end
end Go.Proofs.Ytkhnkkbpibpaaaa.Rg

namespace Go.Proofs.Ytkhnkkbpibpaaaa.Rg
open Go.Proofs Go.Proofs.Ytkhnkkbpibpaaaa.Ab
noncomputable section
theorem pairs_of : ∀ (k : Nat) (zs : List Nat), zs.length = k * 2 → (∀ z ∈ zs, z < 256) → ∃ l : List (Nat × Nat), l.length = k ∧ u8P l = u8A zs ∧ ∀ x ∈ l, x.1 < 256 ∧ x.2 < 256
  | 0, zs, h, _ => ⟨[], rfl, by rw [List.eq_nil_of_length_eq_zero (by omega : zs.length = 0)]; rfl, fun _ h => by cases h⟩
  | k + 1, zs, h, hz => by
    match zs, h with
    | a :: b :: r, h =>
      obtain ⟨l, h1, h2, h3⟩ := pairs_of k r (by simp at h; omega) fun z hz' => hz z (by simp [hz'])
      refine ⟨(a, b) :: l, by simp [h1], ?_, fun x hx => ?_⟩
      · show AV.int .u8 (a : Int) :: AV.int .u8 (b : Int) :: u8P l = _
        rw [h2]; rfl
      · rcases List.mem_cons.1 hx with rfl | hx
        · exact ⟨hz a (by simp), hz b (by simp)⟩
        · exact h3 x hx
    | [a], h => simp at h; omega
    | [], h => simp at h

theorem lay_of {zs : List Nat} (h : zs.length = 26) (hz : ∀ z ∈ zs, z < 256) : ∃ f k by_, Bytes f k by_ ∧ layCells f k by_ = u8A zs := by
  match zs, h with
  | f :: k :: r, h =>
    obtain ⟨l, h1, h2, h3⟩ := pairs_of 12 r (by simp at h; omega) fun z hz' => hz z (by simp [hz'])
    refine ⟨f, k, l, ⟨hz f (by simp), hz k (by simp), h1, h3⟩, ?_⟩
    unfold layCells
    rw [h2]; rfl
end
end Go.Proofs.Ytkhnkkbpibpaaaa.Rg
