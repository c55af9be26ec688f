/- Walks of the laws on shares: values made out of numbers; ShareAlike returns true, where the examples are known to hold. -/
import Derived.Test.YtllldiokcnheiaaSy2
import Derived.Test.YtllldiokcnheiaaShB

namespace Go.Proofs.Ytllldiokcnheiaa.Sh
open Go.Proofs Go.Proofs.Ytllldiokcnheiaa.Ab
set_option linter.unusedVariables false
set_option linter.unusedSimpArgs false
set_option maxHeartbeats 2000000
set_option maxRecDepth 100000
noncomputable section

theorem conv_u8 {n : Nat} (hn : n < 256) : convA Try.prog 5 3 (.int .u8 (n : Int)) = some (I (n : Int)) := by
  unfold convA
  have h5 : Try.prog.underlying 5 = some (.int .u8) := by kernel_rfl
  have h3 : Try.prog.underlying 3 = some (.int .i64) := by kernel_rfl
  simp only [h5, h3]
  rw [wrapF_self (by omega) (by omega)]

theorem u8A_length (zs : List Nat) : (u8A zs).length = zs.length := by simp [u8A]
theorem u8A_part (zs : List Nat) (i k : Nat) : ((u8A zs).drop i).take k = u8A ((zs.drop i).take k) := by simp [u8A, List.map_drop, List.map_take]
theorem u8A_flat (zs : List Nat) : allFlat (u8A zs) = true := flat_of_mem fun x hx => by
  obtain ⟨z, _, rfl⟩ := List.mem_map.1 hx; rfl
theorem getD_nat {l : List Nat} {k : Nat} (hk : k < l.length) : l.getD k 0 = l[k] := by
  rw [List.getD_eq_getElem?_getD, List.getElem?_eq_getElem hk]; rfl

/-- The cells of the law's values: how many finders, how many things, and bytes. -/
def heapCells (f t : Nat) (zs : List Nat) : List AV := .int .u8 (f : Int) :: .int .u8 (t : Int) :: u8A zs
structure HBytes (f t : Nat) (zs : List Nat) : Prop where
  f : f < 256
  t : t < 256
  len : zs.length = 24
  lt : ∀ z ∈ zs, z < 256

def cellF (zs : List Nat) (most i j : Nat) : Int := ((zs.getD (i * 6 + j) 0 % (most + 1) : Nat) : Int)
def rowF (zs : List Nat) (most K i : Nat) : List Int := (List.range K).map (cellF zs most i)
def rowsF (zs : List Nat) (most K n : Nat) : List (List Int) := (List.range n).map (rowF zs most K)

theorem rowF_length (zs : List Nat) (most K i : Nat) : (rowF zs most K i).length = K := by simp [rowF]
theorem rowF_succ (zs : List Nat) (most K i : Nat) : rowF zs most (K + 1) i = rowF zs most K i ++ [cellF zs most i K] := by simp [rowF, List.range_succ]
theorem rowsF_succ (zs : List Nat) (most K n : Nat) : rowsF zs most K (n + 1) = rowsF zs most K n ++ [rowF zs most K n] := by simp [rowsF, List.range_succ]
theorem rowsF_length (zs : List Nat) (most K n : Nat) : (rowsF zs most K n).length = n := by simp [rowsF]

section
variable {O : CallF} {h : AH}

theorem made_cl (hO : OK O) (hw : WF h) {f t : Nat} {zs : List Nat} (hb : HBytes f t zs) {finders things most : Nat} (hf0 : 1 ≤ finders) (hf4 : finders ≤ 4) (ht6 : things ≤ 6) (hm : most ≤ 1000) :
    Cl Try.prog O 0 6 [.agg (heapCells f t zs), I finders, I things, I most] h (fun r h' => ∃ vs, Kept h h' ∧ OMat h.next h' r vs (rowsF zs most (t % (things + 1)) (1 + f % finders))) := by
  have hbf := hb.f; have hbt := hb.t; have hbl := hb.len
  have k4 := Kept.new hw (heapCells f t zs)
  have x4 : OBx h.next (h.new (heapCells f t zs)) h.next (heapCells f t zs) := OBx.new (Nat.le_refl _) _
  have hcl : (heapCells f t zs).length = 26 := by simp [heapCells, u8A_length, hbl]
  have w1 := k4.wf
  obtain ⟨K, hK⟩ : ∃ K, K = t % (things + 1) := ⟨_, rfl⟩
  have hK6 : K ≤ 6 := by have := Nat.mod_lt t (show things + 1 > 0 by omega); omega
  obtain ⟨n, hn⟩ : ∃ n, n = 1 + f % finders := ⟨_, rfl⟩
  have hn4 : n ≤ 4 := by have := Nat.mod_lt f (show finders > 0 by omega); omega
  obtain ⟨y29, e29, s29⟩ := arr_slice (P := Try.prog) (off := 0 + 2) (j := n) x4 u23 sz22 (by rw [hcl]; omega) hn4
  have es29 : ((heapCells f t zs).drop (0 + 2)).take (n * 6) = u8A (zs.take (n * 6)) := by
    show (u8A zs).take (n * 6) = _
    simp [u8A, List.map_take]
  rw [es29] at s29
  have e21 : ((t : Int) % ((things : Int) + 1)) = ((K : Nat) : Int) := by rw [hK]; rfl
  have e28 : (1 : Int) + ((f : Int) % (finders : Int)) = ((n : Nat) : Int) := by rw [hn]; omega
  rw [← hK, ← hn]
  refine Cl.intro (N := 57) (K := 1038845261599) (hO _ _ _ (by decide)) Try.func6 rfl rfl (k := 4) rfl rfl rfl (by kernel_rfl) (.cons 0 _ (.cons 1 _ (.cons 2 _ (.cons 3 _ .nil)))) ⟨⟨rfl, rfl⟩, ⟨rfl, rfl⟩, ⟨rfl, rfl⟩, ⟨rfl, rfl⟩, trivial⟩ ?_
  refine EvL.seq ?_
  refine EvL.region ?_
  refine Rn.val (St.box rfl) rfl ?_
  refine Rn.val (St.assign rfl) rfl ?_
  refine Rn.done (.cons 1 _ (.cons 2 _ (.cons 3 _ (.cons 4 _ .nil)))) ⟨⟨rfl, rfl⟩, ⟨rfl, rfl⟩, ⟨rfl, rfl⟩, ⟨rfl, rfl⟩, trivial⟩ ?_
  refine thenL_normal ?_
  refine EvL.seq ?_
  refine EvL.region ?_
  refine Rn.val (St.assign rfl) rfl ?_
  refine Rn.done (.cons 1 _ (.cons 2 _ (.cons 3 _ (.cons 4 _ (.cons 9 _ .nil))))) ⟨⟨rfl, rfl⟩, ⟨rfl, rfl⟩, ⟨rfl, rfl⟩, ⟨rfl, rfl⟩, ⟨rfl, rfl⟩, trivial⟩ ?_
  refine thenL_normal ?_
  refine EvL.seq ?_
  refine EvL.region ?_
  refine Rn.val (St.fieldAddr rfl (by rfl)) rfl ?_
  refine Rn.val (St.load rfl (x4.load1 sh5 rfl)) rfl ?_
  refine Rn.val (St.convert rfl (conv_u8 hbt)) rfl ?_
  refine Rn.val (St.move rfl) rfl ?_
  refine Rn.val (St.add rfl rfl (by omega) (by omega)) rfl ?_
  refine Rn.val (St.rem rfl rfl (by omega) (by omega)) rfl ?_
  rw [e21]
  refine Rn.val (St.assign rfl) rfl ?_
  refine Rn.done (.cons 1 _ (.cons 3 _ (.cons 4 _ (.cons 9 _ (.cons 10 _ .nil))))) ⟨⟨rfl, rfl⟩, ⟨rfl, rfl⟩, ⟨rfl, rfl⟩, ⟨rfl, rfl⟩, ⟨rfl, rfl⟩, trivial⟩ ?_
  refine thenL_normal ?_
  refine EvL.seq ?_
  refine EvL.seq ?_
  refine EvL.region ?_
  refine Rn.val (St.fieldAddr rfl (by rfl)) rfl ?_
  refine Rn.val (St.fieldAddr rfl (by rfl)) rfl ?_
  refine Rn.val (St.load rfl (x4.load1 sh5 rfl)) rfl ?_
  refine Rn.val (St.convert rfl (conv_u8 hbf)) rfl ?_
  refine Rn.val (St.move rfl) rfl ?_
  refine Rn.val (St.rem rfl rfl (by omega) (by omega)) rfl ?_
  refine Rn.val (St.add rfl rfl (by omega) (by omega)) rfl ?_
  rw [e28]
  refine Rn.val (St.slice rfl rfl rfl rfl e29) rfl ?_
  refine Rn.val (St.len rfl (s29.len u49)) rfl ?_
  refine Rn.val (St.move rfl) rfl ?_
  refine Rn.done (.cons 3 _ (.cons 9 _ (.cons 10 _ (.cons 29 _ (.cons 30 _ (.cons 31 _ .nil)))))) ⟨⟨rfl, rfl⟩, ⟨rfl, rfl⟩, ⟨rfl, rfl⟩, ⟨rfl, rfl⟩, ⟨rfl, rfl⟩, ⟨rfl, rfl⟩, trivial⟩ ?_
  refine thenL_normal ?_
  refine EvL.block ?_
  refine EvL.loop (fun m L h' => ∃ (i : Nat) (v9 : AV) (vs : List AV), i ≤ n ∧ m = n - i ∧ L = (.cons 3 (I most) (.cons 9 v9 (.cons 10 (I K) (.cons 29 y29 (.cons 30 (I n) (.cons 31 (I i) .nil)))))) ∧ KeepB (h.new (heapCells f t zs)).next (h.new (heapCells f t zs)) h' ∧ OMat (h.new (heapCells f t zs)).next h' v9 vs (rowsF zs most K i)) (m := n) ?_ ?_
  · exact ⟨0, .nils, [], Nat.zero_le _, rfl, rfl, .refl w1, OMat.nil _ _⟩
  rintro m L hL0 ⟨i, v9, vs, hi, rfl, rfl, KB, o⟩
  refine EvL.seq ?_
  refine EvL.region ?_
  refine Rn.val (St.lss rfl rfl) rfl ?_
  refine Rn.done (.cons 3 _ (.cons 9 _ (.cons 10 _ (.cons 29 _ (.cons 30 _ (.cons 31 _ (.cons 32 _ .nil))))))) ⟨⟨rfl, rfl⟩, ⟨rfl, rfl⟩, ⟨rfl, rfl⟩, ⟨rfl, rfl⟩, ⟨rfl, rfl⟩, ⟨rfl, rfl⟩, ⟨rfl, rfl⟩, trivial⟩ ?_
  refine thenL_normal ?_
  refine EvL.seq ?_
  refine EvL.cond rfl (fun b32 => ?_) (fun b32 => ?_)
  · try simp only [decide_eq_true_eq, decide_eq_false_iff_not, Bool.not_eq_true', Bool.not_eq_false', Bool.not_true, Bool.not_false] at b32
    have hlt : i < n := by omega
    have hp : ((u8A (zs.take (n * 6))).drop (i * 6)).take 6 = u8A ((zs.drop (i * 6)).take 6) := by
      rw [u8A_part]
      congr 1
      rw [List.drop_take, List.take_take]
      congr 1
      omega
    have hl6 : ((zs.drop (i * 6)).take 6).length = 6 := by simp; omega
    refine EvL.skip ?_
    refine thenL_normal ?_
    refine EvL.seq ?_
    refine EvL.block ?_
    refine EvL.seq ?_
    refine EvL.region ?_
    refine Rn.val (St.indexAddr rfl rfl (s29.addr u49 sz22 hlt)) rfl ?_
    refine Rn.val (St.load rfl (by rw [Sl.cells (s29.kb w1 KB) sh22 hlt, hp])) rfl ?_
    obtain ⟨h12, e12, k12, x12, n12⟩ := alloc_store (P := Try.prog) (t := 22) (zs := zs22) (vs := u8A ((zs.drop (i * 6)).take 6)) (a := .agg (u8A ((zs.drop (i * 6)).take 6))) (KB).wf sz22 rfl rfl (by rw [u8A_length]; exact hl6) (u8A_flat _)
    refine Rn.val (St.alloc (allocA_of zero22 rfl)) rfl ?_
    refine Rn.val (St.store rfl rfl e12) rfl ?_
    have KB := KB.trans k12.keepB
    have o := o.keep k12.keep
    have wX := KB.wf
    obtain ⟨y36, e36, s36⟩ := arr_slice (P := Try.prog) (off := 0) (j := K) x12 u22 sz5 (by rw [u8A_length, hl6]; omega) hK6
    refine Rn.done (.cons 3 _ (.cons 9 _ (.cons 10 _ (.cons 12 _ (.cons 29 _ (.cons 30 _ (.cons 31 _ .nil))))))) ⟨⟨rfl, rfl⟩, ⟨rfl, rfl⟩, ⟨rfl, rfl⟩, ⟨rfl, rfl⟩, ⟨rfl, rfl⟩, ⟨rfl, rfl⟩, ⟨rfl, rfl⟩, trivial⟩ ?_
    refine thenL_normal ?_
    refine EvL.seq ?_
    refine EvL.region ?_
    refine Rn.val (St.assign rfl) rfl ?_
    refine Rn.done (.cons 3 _ (.cons 9 _ (.cons 10 _ (.cons 12 _ (.cons 13 _ (.cons 29 _ (.cons 30 _ (.cons 31 _ .nil)))))))) ⟨⟨rfl, rfl⟩, ⟨rfl, rfl⟩, ⟨rfl, rfl⟩, ⟨rfl, rfl⟩, ⟨rfl, rfl⟩, ⟨rfl, rfl⟩, ⟨rfl, rfl⟩, ⟨rfl, rfl⟩, trivial⟩ ?_
    refine thenL_normal ?_
    refine EvL.seq ?_
    refine EvL.seq ?_
    refine EvL.region ?_
    refine Rn.val (St.move rfl) rfl ?_
    refine Rn.val (St.slice rfl rfl rfl rfl e36) rfl ?_
    refine Rn.val (St.len rfl (s36.len u50)) rfl ?_
    refine Rn.val (St.move rfl) rfl ?_
    refine Rn.done (.cons 3 _ (.cons 9 _ (.cons 10 _ (.cons 13 _ (.cons 29 _ (.cons 30 _ (.cons 31 _ (.cons 36 _ (.cons 37 _ (.cons 38 _ .nil)))))))))) ⟨⟨rfl, rfl⟩, ⟨rfl, rfl⟩, ⟨rfl, rfl⟩, ⟨rfl, rfl⟩, ⟨rfl, rfl⟩, ⟨rfl, rfl⟩, ⟨rfl, rfl⟩, ⟨rfl, rfl⟩, ⟨rfl, rfl⟩, ⟨rfl, rfl⟩, trivial⟩ ?_
    refine thenL_normal ?_
    refine EvL.block ?_
    refine EvL.loop (fun m L h' => ∃ (j : Nat) (v13 : AV), j ≤ K ∧ m = K - j ∧ L = (.cons 3 (I most) (.cons 9 v9 (.cons 10 (I K) (.cons 13 v13 (.cons 29 y29 (.cons 30 (I n) (.cons 31 (I i) (.cons 36 y36 (.cons 37 (I K) (.cons 38 (I j) .nil)))))))))) ∧ KeepB h12.next h12 h' ∧ OInts h12.next h' v13 (rowF zs most j i)) (m := K) ?_ ?_
    · exact ⟨0, .nils, Nat.zero_le _, rfl, rfl, .refl wX, Osl.nil _ _ _⟩
    rintro m L hL1 ⟨j, v13, hj, rfl, rfl, KX, oX⟩
    refine EvL.seq ?_
    refine EvL.region ?_
    refine Rn.val (St.lss rfl rfl) rfl ?_
    refine Rn.done (.cons 3 _ (.cons 9 _ (.cons 10 _ (.cons 13 _ (.cons 29 _ (.cons 30 _ (.cons 31 _ (.cons 36 _ (.cons 37 _ (.cons 38 _ (.cons 39 _ .nil))))))))))) ⟨⟨rfl, rfl⟩, ⟨rfl, rfl⟩, ⟨rfl, rfl⟩, ⟨rfl, rfl⟩, ⟨rfl, rfl⟩, ⟨rfl, rfl⟩, ⟨rfl, rfl⟩, ⟨rfl, rfl⟩, ⟨rfl, rfl⟩, ⟨rfl, rfl⟩, ⟨rfl, rfl⟩, trivial⟩ ?_
    refine thenL_normal ?_
    refine EvL.seq ?_
    refine EvL.cond rfl (fun b39 => ?_) (fun b39 => ?_)
    · try simp only [decide_eq_true_eq, decide_eq_false_iff_not, Bool.not_eq_true', Bool.not_eq_false', Bool.not_true, Bool.not_false] at b39
      have hltj : j < K := by omega
      have hq : i * 6 + j < zs.length := by omega
      have hz := hb.lt _ (List.getElem_mem hq)
      have hc : (((u8A ((zs.drop (i * 6)).take 6)).drop 0).take (K * 1))[j]? = some (.int .u8 (zs[i * 6 + j] : Int)) := by
        rw [List.drop_zero, Nat.mul_one, List.getElem?_take, if_pos hltj]
        simp [u8A, List.getElem?_take, List.getElem?_drop, show j < 6 by omega, hq]
      have ecell : cellF zs most i j = ((zs[i * 6 + j] % (most + 1) : Nat) : Int) := by unfold cellF; rw [getD_nat hq]
      refine EvL.skip ?_
      refine thenL_normal ?_
      refine EvL.seq ?_
      refine EvL.block ?_
      refine EvL.seq ?_
      refine EvL.region ?_
      refine Rn.val (St.indexAddr rfl rfl (s36.addr u50 sz5 hltj)) rfl ?_
      refine Rn.val (St.load rfl ((s36.keep (KX.kept wX).keep).cell sh5 hc)) rfl ?_
      refine Rn.val (St.assign rfl) rfl ?_
      refine Rn.done (.cons 3 _ (.cons 9 _ (.cons 10 _ (.cons 13 _ (.cons 15 _ (.cons 29 _ (.cons 30 _ (.cons 31 _ (.cons 36 _ (.cons 37 _ (.cons 38 _ .nil))))))))))) ⟨⟨rfl, rfl⟩, ⟨rfl, rfl⟩, ⟨rfl, rfl⟩, ⟨rfl, rfl⟩, ⟨rfl, rfl⟩, ⟨rfl, rfl⟩, ⟨rfl, rfl⟩, ⟨rfl, rfl⟩, ⟨rfl, rfl⟩, ⟨rfl, rfl⟩, ⟨rfl, rfl⟩, trivial⟩ ?_
      refine thenL_normal ?_
      refine EvL.region ?_
      refine Rn.val (St.move rfl) rfl ?_
      refine Rn.val (St.move rfl) rfl ?_
      refine Rn.val (St.convert rfl (conv_u8 hz)) rfl ?_
      refine Rn.val (St.move rfl) rfl ?_
      refine Rn.val (St.add rfl rfl (by omega) (by omega)) rfl ?_
      refine Rn.val (St.rem rfl rfl (by omega) (by omega)) rfl ?_
      refine Rn.val (St.buildSlice rfl (one_slice ap28 rfl rfl (by decide))) rfl ?_
      obtain ⟨v49, h49, e49, kb49, o49⟩ := OInts.push (P := Try.prog) (t := 28) (x := ((zs[i * 6 + j] % (most + 1) : Nat) : Int)) KX.wf ap28 oX (by rw [rowF_length]; omega) wX.pos KX.next
      refine Rn.val (St.append rfl rfl e49) rfl ?_
      have KX := KX.trans kb49
      rw [← ecell, ← rowF_succ] at o49
      refine Rn.val (St.assign rfl) rfl ?_
      refine Rn.done (.cons 3 _ (.cons 9 _ (.cons 10 _ (.cons 13 _ (.cons 29 _ (.cons 30 _ (.cons 31 _ (.cons 36 _ (.cons 37 _ (.cons 38 _ .nil)))))))))) ⟨⟨rfl, rfl⟩, ⟨rfl, rfl⟩, ⟨rfl, rfl⟩, ⟨rfl, rfl⟩, ⟨rfl, rfl⟩, ⟨rfl, rfl⟩, ⟨rfl, rfl⟩, ⟨rfl, rfl⟩, ⟨rfl, rfl⟩, ⟨rfl, rfl⟩, trivial⟩ ?_
      refine blockL_normal ?_
      refine thenL_normal ?_
      refine EvL.region ?_
      refine Rn.val (St.add rfl rfl (by omega) (by omega)) rfl ?_
      refine Rn.val (St.move rfl) rfl ?_
      refine Rn.done (.cons 3 _ (.cons 9 _ (.cons 10 _ (.cons 13 _ (.cons 29 _ (.cons 30 _ (.cons 31 _ (.cons 36 _ (.cons 37 _ (.cons 38 _ .nil)))))))))) ⟨⟨rfl, rfl⟩, ⟨rfl, rfl⟩, ⟨rfl, rfl⟩, ⟨rfl, rfl⟩, ⟨rfl, rfl⟩, ⟨rfl, rfl⟩, ⟨rfl, rfl⟩, ⟨rfl, rfl⟩, ⟨rfl, rfl⟩, ⟨rfl, rfl⟩, trivial⟩ ?_
      exact ⟨K - (j + 1), by omega, j + 1, v49, by omega, rfl, rfl, KX, o49⟩
    · try simp only [decide_eq_true_eq, decide_eq_false_iff_not, Bool.not_eq_true', Bool.not_eq_false', Bool.not_true, Bool.not_false] at b39
      have he : j = K := by omega
      subst he
      have kX := KX.kept wX
      have hA : Asun hL1 v9 v13 := fun g hg h2 => by
        rw [o.sl.sl.fam_keep kX.keep] at hg
        have h3 := o.sl.sl.fam_lt wX hg
        have h4 := oX.fam_ge h2
        omega
      have KB := KB.trans kX.keepB
      have o := o.keep kX.keep
      refine EvL.exit ?_
      refine thenL_exit ?_
      refine thenL_exit ?_
      refine blockL_exit ?_
      refine thenL_normal ?_
      refine EvL.region ?_
      refine Rn.val (St.move rfl) rfl ?_
      refine Rn.val (St.move rfl) rfl ?_
      refine Rn.val (St.buildSlice rfl (one_slice ap26 (Sl.cell1 oX.ints) rfl (by decide))) rfl ?_
      obtain ⟨v54, h54, e54, kb54, o54⟩ := OMat.push (P := Try.prog) (t := 26) KB.wf ap26 o oX.ints hA (by rw [rowsF_length]; omega) w1.pos KB.next
      refine Rn.val (St.append rfl rfl e54) rfl ?_
      have KB := KB.trans kb54
      rw [← rowsF_succ] at o54
      refine Rn.val (St.assign rfl) rfl ?_
      refine Rn.done (.cons 3 _ (.cons 9 _ (.cons 10 _ (.cons 29 _ (.cons 30 _ (.cons 31 _ .nil)))))) ⟨⟨rfl, rfl⟩, ⟨rfl, rfl⟩, ⟨rfl, rfl⟩, ⟨rfl, rfl⟩, ⟨rfl, rfl⟩, ⟨rfl, rfl⟩, trivial⟩ ?_
      refine blockL_normal ?_
      refine thenL_normal ?_
      refine EvL.region ?_
      refine Rn.val (St.add rfl rfl (by omega) (by omega)) rfl ?_
      refine Rn.val (St.move rfl) rfl ?_
      refine Rn.done (.cons 3 _ (.cons 9 _ (.cons 10 _ (.cons 29 _ (.cons 30 _ (.cons 31 _ .nil)))))) ⟨⟨rfl, rfl⟩, ⟨rfl, rfl⟩, ⟨rfl, rfl⟩, ⟨rfl, rfl⟩, ⟨rfl, rfl⟩, ⟨rfl, rfl⟩, trivial⟩ ?_
      exact ⟨n - (i + 1), by omega, i + 1, v54, _, by omega, rfl, rfl, KB, o54⟩
  · try simp only [decide_eq_true_eq, decide_eq_false_iff_not, Bool.not_eq_true', Bool.not_eq_false', Bool.not_true, Bool.not_false] at b32
    have he : i = n := by omega
    subst he
    refine EvL.exit ?_
    refine thenL_exit ?_
    refine thenL_exit ?_
    refine blockL_exit ?_
    refine thenL_normal ?_
    refine EvL.seq ?_
    refine EvL.region ?_
    refine Rn.val (St.move rfl) rfl ?_
    refine Rn.val (St.assign rfl) rfl ?_
    refine Rn.done (.cons 8 _ .nil) ⟨⟨rfl, rfl⟩, trivial⟩ ?_
    refine thenL_normal ?_
    refine EvL.ret ?_
    refine endL_ret rfl ?_
    exact ⟨_, k4.trans (KB.kept w1), o.down k4.next⟩

end
end
end Go.Proofs.Ytllldiokcnheiaa.Sh

namespace Go.Proofs.Ytllldiokcnheiaa.Sh
open Go.Proofs Go.Proofs.Ytllldiokcnheiaa.Ab
set_option linter.unusedVariables false
set_option linter.unusedSimpArgs false
set_option maxHeartbeats 2000000
set_option maxRecDepth 100000
noncomputable section

def Works (O : CallF) : Prop := ∀ h, O 8 [] h = some (.bool true, h)

def rowB (P : Nat → Nat → Bool) (i : Nat) : Nat → Bool
  | 0 => true
  | j + 1 => rowB P i j && P i j
def allB (P : Nat → Nat → Bool) (n : Nat) : Nat → Bool
  | 0 => true
  | i + 1 => allB P n i && rowB P i n
theorem rowB_iff {P : Nat → Nat → Bool} {i : Nat} : ∀ {j : Nat}, rowB P i j = true ↔ ∀ y, y < j → P i y = true
  | 0 => ⟨fun _ y hy => by omega, fun _ => rfl⟩
  | j + 1 => by
    unfold rowB
    rw [Bool.and_eq_true, rowB_iff]
    constructor
    · rintro ⟨h1, h2⟩ y hy
      by_cases e : y = j
      · subst e; exact h2
      · exact h1 y (by omega)
    · intro h; exact ⟨fun y hy => h y (by omega), h j (by omega)⟩
theorem allB_iff {P : Nat → Nat → Bool} {n : Nat} : ∀ {i : Nat}, allB P n i = true ↔ ∀ x, x < i → ∀ y, y < n → P x y = true
  | 0 => ⟨fun _ y hy => by omega, fun _ => rfl⟩
  | i + 1 => by
    unfold allB
    rw [Bool.and_eq_true, allB_iff, rowB_iff]
    constructor
    · rintro ⟨h1, h2⟩ x hx y hy
      by_cases e : x = i
      · subst e; exact h2 y hy
      · exact h1 x (by omega) y hy
    · intro h; exact ⟨fun x hx => h x (by omega), h i (by omega)⟩

/-- The law's two questions. -/
def wantP (r : List Int) (own : List Int) (K i j : Nat) : Bool := decide (wS r own j K - gS r own j K ≤ wS r own i K)
def evenP (r : List Int) (own : List Int) (K i j : Nat) : Bool := decide (wS r own i K = wS r own j K)

def fairV (rows : List (List Int)) (own : List Int) : Int := if allP (muchP rows own) rows.length rows.length ≠ [] then 0 else if allP (envP rows own) rows.length rows.length ≠ [] then 1 else 2

section
variable {rows : List (List Int)} {own r : List Int} {N : Nat}
theorem want_law (hN : rows.length = N) (hall : ∀ k, k < N → rows[k]? = some r) : (allB (wantP r own own.length) N N = true) ↔ allP (muchP rows own) N N = [] := by
  rw [allB_iff, allP_nil]
  refine forall_congr' fun x => imp_congr_right fun hx => forall_congr' fun y => imp_congr_right fun hy => ?_
  have hr : rows.getD x [] = r := by rw [List.getD_eq_getElem?_getD, hall x hx]; rfl
  unfold wantP muchP lessE
  rw [hr]
  simp only [decide_eq_true_eq, decide_eq_false_iff_not]
  omega

theorem even_law (hN : rows.length = N) (hall : ∀ k, k < N → rows[k]? = some r) (hs : ∀ x ∈ r, 0 ≤ x ∧ x ≤ 1000) : (allB (evenP r own own.length) N N = true) ↔ allP (muchP rows own) N N = [] ∧ allP (envP rows own) N N = [] := by
  rw [allB_iff, allP_nil, allP_nil]
  have hr : ∀ x, x < N → rows.getD x [] = r := fun x hx => by rw [List.getD_eq_getElem?_getD, hall x hx]; rfl
  constructor
  · intro h
    refine ⟨fun x hx y hy => ?_, fun x hx y hy => ?_⟩
    · have h1 := h x hx y hy
      have h2 := gS_le (own := own) (of_ := (y : Int)) hs own.length
      unfold evenP at h1
      unfold muchP lessE
      rw [hr x hx]
      simp only [decide_eq_true_eq, decide_eq_false_iff_not] at h1 ⊢
      omega
    · have h1 := h x hx y hy
      unfold evenP at h1
      unfold envP withE
      rw [hr x hx]
      simp only [decide_eq_true_eq, decide_eq_false_iff_not] at h1 ⊢
      omega
  · rintro ⟨_, h⟩ x hx y hy
    have h1 := h x hx y hy
    have h2 := h y hy x hx
    unfold envP withE at h1 h2
    rw [hr x hx] at h1
    rw [hr y hy] at h2
    unfold evenP
    simp only [decide_eq_true_eq, decide_eq_false_iff_not] at h1 h2 ⊢
    omega

theorem law_one (hN : rows.length = N) (hall : ∀ k, k < N → rows[k]? = some r) : (decide (0 < fairV rows own) == allB (wantP r own own.length) N N) = true := by
  have h := want_law (own := own) hN hall
  unfold fairV
  rw [hN]
  by_cases hm : allP (muchP rows own) N N = []
  · rw [if_neg (fun e => e hm), h.2 hm]
    split <;> rfl
  · rw [if_pos hm]
    have : allB (wantP r own own.length) N N = false := by
      cases hb : allB (wantP r own own.length) N N
      · rfl
      · exact absurd (h.1 hb) hm
    rw [this]; rfl
theorem law_two (hN : rows.length = N) (hall : ∀ k, k < N → rows[k]? = some r) (hs : ∀ x ∈ r, 0 ≤ x ∧ x ≤ 1000) : (decide (fairV rows own = 2) == allB (evenP r own own.length) N N) = true := by
  have h := even_law (own := own) hN hall hs
  unfold fairV
  rw [hN]
  by_cases hm : allP (muchP rows own) N N = []
  · rw [if_neg (fun e => e hm)]
    by_cases he : allP (envP rows own) N N = []
    · rw [if_neg (fun e => e he), h.2 ⟨hm, he⟩]; rfl
    · rw [if_pos he]
      have : allB (evenP r own own.length) N N = false := by
        cases hb : allB (evenP r own own.length) N N
        · rfl
        · exact absurd (h.1 hb).2 he
      rw [this]; rfl
  · rw [if_pos hm]
    have : allB (evenP r own own.length) N N = false := by
      cases hb : allB (evenP r own own.length) N N
      · rfl
      · exact absurd (h.1 hb).1 hm
    rw [this]; rfl
end

/-! ### Sums -/
def sumF (r own : List Int) (N k : Nat) : List Int := (List.range N).map fun i : Nat => wS r own (i : Int) k
def topF (r own : List Int) (N k : Nat) : List Int := (List.range N).map fun i : Nat => gS r own (i : Int) k
theorem sumF_length (r own : List Int) (N k : Nat) : (sumF r own N k).length = N := by simp [sumF]
theorem topF_length (r own : List Int) (N k : Nat) : (topF r own N k).length = N := by simp [topF]
theorem sumF_zero (r own : List Int) (N : Nat) : sumF r own N 0 = List.replicate N 0 := by
  apply List.ext_getElem
  · simp [sumF]
  · intro i h1 h2; simp [sumF, wS]
theorem topF_zero (r own : List Int) (N : Nat) : topF r own N 0 = List.replicate N 0 := by
  apply List.ext_getElem
  · simp [topF]
  · intro i h1 h2; simp [topF, gS]
theorem sumF_set {r own : List Int} {N k q : Nat} (hq : q < N) (ho : own.getD k (-1) = (q : Int)) : (sumF r own N k).set q (wS r own (q : Int) k + r.getD k 0) = sumF r own N (k + 1) := by
  apply List.ext_getElem
  · simp [sumF]
  · intro i h1 h2
    rw [List.getElem_set]
    by_cases e : q = i
    · subst e; rw [if_pos rfl]; simp only [sumF, List.getElem_map, List.getElem_range]; rw [wS, ho, if_pos rfl]
    · rw [if_neg e]
      simp only [sumF, List.getElem_map, List.getElem_range]
      rw [wS, ho, if_neg (by omega)]; simp
theorem topF_set {r own : List Int} {N k q : Nat} (hq : q < N) (ho : own.getD k (-1) = (q : Int)) : (topF r own N k).set q (max (gS r own (q : Int) k) (r.getD k 0)) = topF r own N (k + 1) := by
  apply List.ext_getElem
  · simp [topF]
  · intro i h1 h2
    rw [List.getElem_set]
    by_cases e : q = i
    · subst e; rw [if_pos rfl]; simp only [topF, List.getElem_map, List.getElem_range]; rw [gS, ho, if_pos rfl]
    · rw [if_neg e]
      simp only [topF, List.getElem_map, List.getElem_range]
      rw [gS, ho, if_neg (by omega)]

theorem Two.getS {h0 h : AH} {r own : List Int} {N k : Nat} {T : List Int} (F : Two h0 h (sumF r own N k) T) {q : Nat} (hq : q < N) : loadA Try.prog 3 (addrOf (.sl h0.next 0 N N 1 true) q) h = some (I (wS r own (q : Int) k)) := by
  have := (F.intsS (sumF_length r own N k)).at (P := Try.prog) sh3 (i := q) (by rw [sumF_length]; exact hq)
  simpa [sumF] using this
theorem Two.getT {h0 h : AH} {r own : List Int} {N k : Nat} {S : List Int} (F : Two h0 h S (topF r own N k)) {q : Nat} (hq : q < N) : loadA Try.prog 3 (addrOf (.sl (h0.next + 1) 0 N N 1 true) q) h = some (I (gS r own (q : Int) k)) := by
  have := (F.intsT (topF_length r own N k)).at (P := Try.prog) sh3 (i := q) (by rw [topF_length]; exact hq)
  simpa [topF] using this

/-- Owners by bytes. -/
def ownF (bs : List Nat) (n K : Nat) : List Int := (List.range K).map fun j => ((bs.getD j 0 % n : Nat) : Int)
theorem ownF_length (bs : List Nat) (n K : Nat) : (ownF bs n K).length = K := by simp [ownF]
theorem ownF_succ (bs : List Nat) (n K : Nat) : ownF bs n (K + 1) = ownF bs n K ++ [((bs.getD K 0 % n : Nat) : Int)] := by simp [ownF, List.range_succ]

theorem eqBool (a b : Bool) : binA Try.prog .eql 4 (.bool a) (.bool b) = some (.bool (a == b)) := by cases a <;> cases b <;> rfl

section
variable {O : CallF} {h : AH}

theorem works_cl (hW : Works O) : Cl Try.prog O 0 8 [] h (fun r h' => r = .bool true ∧ h = h') :=
  ⟨0, .bool true, h, by unfold callA callW; rw [hW h], rfl, rfl⟩

theorem alike_cl (hO : OK O) (hW : Works O) (hw : WF h) {f t : Nat} {zs bs : List Nat} (hb : HBytes f t zs) (hbl : bs.length = 6) (hbs : ∀ z ∈ bs, z < 256) :
    Cl Try.prog O 0 3 [.agg (heapCells f t zs), .agg (u8A bs)] h (fun r h' => r = .bool true) := by
  have hcl : (heapCells f t zs).length = 26 := by simp [heapCells, u8A_length, hb.len]
  have k1 := Kept.new hw (heapCells f t zs)
  have k2 := Kept.new k1.wf (u8A bs)
  have x2 : OBx h.next ((h.new (heapCells f t zs)).new (u8A bs)) h.next (heapCells f t zs) := (OBx.new (Nat.le_refl _) _).keep k2.keep
  have x3 : OBx (h.next + 1) ((h.new (heapCells f t zs)).new (u8A bs)) (h.next + 1) (u8A bs) := OBx.new (Nat.le_refl _) _
  have w2 := k2.wf
  obtain ⟨K, hK⟩ : ∃ K, K = t % (6 + 1) := ⟨_, rfl⟩
  have hK6 : K ≤ 6 := by have := Nat.mod_lt t (show 6 + 1 > 0 by omega); omega
  obtain ⟨n, hn⟩ : ∃ n, n = 1 + f % 4 := ⟨_, rfl⟩
  have hn4 : n ≤ 4 := by have := Nat.mod_lt f (show 4 > 0 by omega); omega
  have hn1 : 1 ≤ n := by omega
  have hr0l : (rowF zs 20 K 0).length = K := rowF_length _ _ _ _
  have hr0v : ∀ x ∈ rowF zs 20 K 0, 0 ≤ x ∧ x ≤ 20 := fun x hx => by
    obtain ⟨j, _, rfl⟩ := List.mem_map.1 hx
    unfold cellF
    have := Nat.mod_lt (zs.getD (0 * 6 + j) 0) (show 20 + 1 > 0 by omega)
    omega
  have hr0s : ∀ x ∈ rowF zs 20 K 0, 0 ≤ x ∧ x ≤ 1000 := fun x hx => by have := hr0v x hx; omega
  have hfirst : (rowsF zs 20 K n)[0]? = some (rowF zs 20 K 0) := by unfold rowsF; rw [List.getElem?_map, List.getElem?_range (by omega)]; rfl
  refine Cl.intro (N := 155) (K := 1143856596301853102308994842623) (hO _ _ _ (by decide)) Try.func3 rfl rfl (k := 2) rfl rfl rfl (by kernel_rfl) (.cons 0 _ (.cons 1 _ .nil)) ⟨⟨rfl, rfl⟩, ⟨rfl, rfl⟩, trivial⟩ ?_
  refine EvL.seq ?_
  refine EvL.region ?_
  refine Rn.val (St.box rfl) rfl ?_
  refine Rn.val (St.box rfl) rfl ?_
  rw [show ((h.new (cellsA (.agg (heapCells f t zs)))).new (cellsA (.agg (u8A bs)))) = (h.new (heapCells f t zs)).new (u8A bs) from rfl, show (h.new (cellsA (.agg (heapCells f t zs)))).next = h.next + 1 from rfl]
  generalize (h.new (heapCells f t zs)).new (u8A bs) = h2 at k2 x2 x3 w2 ⊢
  refine Rn.val (St.assign rfl) rfl ?_
  refine Rn.done (.cons 2 _ (.cons 3 _ .nil)) ⟨⟨rfl, rfl⟩, ⟨rfl, rfl⟩, trivial⟩ ?_
  refine thenL_normal ?_
  refine EvL.seq ?_
  refine EvL.region ?_
  refine Rn.val (St.load rfl (x2.load_all sh25 hcl)) rfl ?_
  refine Rn.call rfl rfl rfl (made_cl hO w2 hb (finders := 4) (things := 6) (most := 20) (by omega) (by omega) (by omega) (by omega)) fun v20 h20 c20 => ?_
  obtain ⟨vs, k20, o20⟩ := c20
  rw [← hK, ← hn] at o20
  generalize hr0 : rowF zs 20 K 0 = r0 at hr0l hr0v hr0s hfirst
  generalize hrs : rowsF zs 20 K n = rs at o20 hfirst
  have hrl : rs.length = n := by rw [← hrs, rowsF_length]
  obtain ⟨a0, ha0, i0⟩ := o20.rows.get (i := 0) (by omega)
  have KB : KeepB h2.next h2 h20 := k20.keepB
  refine Rn.val (St.assign rfl) rfl ?_
  refine Rn.done (.cons 3 _ (.cons 5 _ .nil)) ⟨⟨rfl, rfl⟩, ⟨rfl, rfl⟩, trivial⟩ ?_
  refine thenL_normal ?_
  refine EvL.seq ?_
  refine EvL.seq ?_
  refine EvL.region ?_
  refine Rn.val (St.move rfl) rfl ?_
  refine Rn.val (St.len rfl (o20.sl.sl.len u26)) rfl ?_
  refine Rn.val (St.move rfl) rfl ?_
  refine Rn.done (.cons 3 _ (.cons 5 _ (.cons 22 _ (.cons 23 _ .nil)))) ⟨⟨rfl, rfl⟩, ⟨rfl, rfl⟩, ⟨rfl, rfl⟩, ⟨rfl, rfl⟩, trivial⟩ ?_
  refine thenL_normal ?_
  refine EvL.block ?_
  refine EvL.loop (fun m L h' => ∃ (i : Nat) (vs' : List AV) (rs' : List (List Int)), i ≤ n ∧ m = n - i ∧ L = (.cons 3 (.ptr (h.next + 1) 0) (.cons 5 v20 (.cons 22 (I rs.length) (.cons 23 (I i) .nil)))) ∧ KeepB h2.next h2 h' ∧ OMat h2.next h' v20 vs' rs' ∧ rs'.length = n ∧ vs'[0]? = some a0 ∧ rs'[0]? = some r0 ∧ ∀ k, k < i → rs'[k]? = some r0) (m := n) ?_ ?_
  · exact ⟨0, vs, rs, Nat.zero_le _, rfl, rfl, KB, o20, hrl, ha0, hfirst, fun k hk => by omega⟩
  rintro m L hL0 ⟨i, vs', rs', hi, rfl, rfl, KB, o, hl', ha', hr', hall⟩
  refine EvL.seq ?_
  refine EvL.region ?_
  refine Rn.val (St.lss rfl rfl) rfl ?_
  refine Rn.done (.cons 3 _ (.cons 5 _ (.cons 22 _ (.cons 23 _ (.cons 24 _ .nil))))) ⟨⟨rfl, rfl⟩, ⟨rfl, rfl⟩, ⟨rfl, rfl⟩, ⟨rfl, rfl⟩, ⟨rfl, rfl⟩, trivial⟩ ?_
  refine thenL_normal ?_
  refine EvL.seq ?_
  refine EvL.cond rfl (fun b24 => ?_) (fun b24 => ?_)
  · try simp only [decide_eq_true_eq, decide_eq_false_iff_not, Bool.not_eq_true', Bool.not_eq_false', Bool.not_true, Bool.not_false] at b24
    have hlt : i < rs'.length := by omega
    obtain ⟨h31, e31, kb31, o31⟩ := OMat.set (P := Try.prog) (t := 28) KB.wf o (o.rows.row 0 a0 r0 ha' hr') (o.apart a0 (List.mem_of_getElem? ha')) hlt sz28 w2.pos
    have KB := KB.trans kb31
    refine EvL.skip ?_
    refine thenL_normal ?_
    refine EvL.seq ?_
    refine EvL.block ?_
    refine EvL.seq ?_
    refine EvL.region ?_
    refine Rn.val (St.move rfl) rfl ?_
    refine Rn.val (St.assign rfl) rfl ?_
    refine Rn.done (.cons 3 _ (.cons 5 _ (.cons 6 _ (.cons 22 _ (.cons 23 _ .nil))))) ⟨⟨rfl, rfl⟩, ⟨rfl, rfl⟩, ⟨rfl, rfl⟩, ⟨rfl, rfl⟩, ⟨rfl, rfl⟩, trivial⟩ ?_
    refine thenL_normal ?_
    refine EvL.region ?_
    refine Rn.val (St.move rfl) rfl ?_
    refine Rn.val (St.move rfl) rfl ?_
    refine Rn.val (St.move rfl) rfl ?_
    refine Rn.val (St.indexAddr rfl rfl (o.sl.sl.addr (i := 0) u26 sz28 (by omega))) rfl ?_
    refine Rn.val (St.load rfl (o.mat.sl.cell sh28 ha')) rfl ?_
    refine Rn.val (St.indexAddr rfl rfl (o.sl.sl.addr u26 sz28 hlt)) rfl ?_
    refine Rn.val (St.store rfl rfl e31) rfl ?_
    refine Rn.done (.cons 3 _ (.cons 5 _ (.cons 22 _ (.cons 23 _ .nil)))) ⟨⟨rfl, rfl⟩, ⟨rfl, rfl⟩, ⟨rfl, rfl⟩, ⟨rfl, rfl⟩, trivial⟩ ?_
    refine blockL_normal ?_
    refine thenL_normal ?_
    refine EvL.region ?_
    refine Rn.val (St.add rfl rfl (by omega) (by omega)) rfl ?_
    refine Rn.val (St.move rfl) rfl ?_
    refine Rn.done (.cons 3 _ (.cons 5 _ (.cons 22 _ (.cons 23 _ .nil)))) ⟨⟨rfl, rfl⟩, ⟨rfl, rfl⟩, ⟨rfl, rfl⟩, ⟨rfl, rfl⟩, trivial⟩ ?_
    exact ⟨n - (i + 1), by omega, i + 1, _, _, by omega, rfl, rfl, KB, o31, by simpa using hl', by
      by_cases e : i = 0
      · subst e; rw [List.getElem?_set_self (by rw [o.rows.len]; exact hlt)]
      · rw [List.getElem?_set_ne e]; exact ha', by
      by_cases e : i = 0
      · subst e; rw [List.getElem?_set_self hlt]
      · rw [List.getElem?_set_ne e]; exact hr', fun k hk => by
      by_cases e : i = k
      · subst e; rw [List.getElem?_set_self hlt]
      · rw [List.getElem?_set_ne e]; exact hall k (by omega)⟩
  · try simp only [decide_eq_true_eq, decide_eq_false_iff_not, Bool.not_eq_true', Bool.not_eq_false', Bool.not_true, Bool.not_false] at b24
    have he : i = n := by omega
    subst he
    have wC := KB.wf
    have mt := o.mat
    have iC : Ints hL0 a0 r0 := o.rows.row 0 a0 r0 ha' hr'
    have x3 := x3.keep (KB.kept w2).keep
    have hN0 : 0 < rs'.length := by omega
    refine EvL.exit ?_
    refine thenL_exit ?_
    refine thenL_exit ?_
    refine blockL_exit ?_
    refine thenL_normal ?_
    refine EvL.seq ?_
    refine EvL.region ?_
    refine Rn.val (St.assign rfl) rfl ?_
    refine Rn.done (.cons 3 _ (.cons 5 _ (.cons 7 _ .nil))) ⟨⟨rfl, rfl⟩, ⟨rfl, rfl⟩, ⟨rfl, rfl⟩, trivial⟩ ?_
    refine thenL_normal ?_
    refine EvL.seq ?_
    refine EvL.seq ?_
    refine EvL.region ?_
    refine Rn.val (St.move rfl) rfl ?_
    refine Rn.val (St.indexAddr rfl rfl (mt.sl.addr (i := 0) u26 sz28 hN0)) rfl ?_
    refine Rn.val (St.load rfl (mt.sl.cell sh28 ha')) rfl ?_
    refine Rn.val (St.len rfl (iC.len u28)) rfl ?_
    refine Rn.val (St.move rfl) rfl ?_
    refine Rn.done (.cons 3 _ (.cons 5 _ (.cons 7 _ (.cons 36 _ (.cons 37 _ .nil))))) ⟨⟨rfl, rfl⟩, ⟨rfl, rfl⟩, ⟨rfl, rfl⟩, ⟨rfl, rfl⟩, ⟨rfl, rfl⟩, trivial⟩ ?_
    refine thenL_normal ?_
    refine EvL.block ?_
    refine EvL.loop (fun m L h' => ∃ (k : Nat) (v7 : AV), k ≤ K ∧ m = K - k ∧ L = (.cons 3 (.ptr (h.next + 1) 0) (.cons 5 v20 (.cons 7 v7 (.cons 36 (I r0.length) (.cons 37 (I k) .nil))))) ∧ KeepB hL0.next hL0 h' ∧ OInts hL0.next h' v7 (ownF bs rs'.length k)) (m := K) ?_ ?_
    · exact ⟨0, .nils, Nat.zero_le _, rfl, rfl, .refl wC, Osl.nil _ _ _⟩
    rintro m L hL1 ⟨k, v7, hk, rfl, rfl, KC, oo⟩
    refine EvL.seq ?_
    refine EvL.region ?_
    refine Rn.val (St.lss rfl rfl) rfl ?_
    refine Rn.done (.cons 3 _ (.cons 5 _ (.cons 7 _ (.cons 36 _ (.cons 37 _ (.cons 38 _ .nil)))))) ⟨⟨rfl, rfl⟩, ⟨rfl, rfl⟩, ⟨rfl, rfl⟩, ⟨rfl, rfl⟩, ⟨rfl, rfl⟩, ⟨rfl, rfl⟩, trivial⟩ ?_
    refine thenL_normal ?_
    refine EvL.seq ?_
    refine EvL.cond rfl (fun b38 => ?_) (fun b38 => ?_)
    · try simp only [decide_eq_true_eq, decide_eq_false_iff_not, Bool.not_eq_true', Bool.not_eq_false', Bool.not_true, Bool.not_false] at b38
      have hlt : k < K := by omega
      have hkb : k < bs.length := by omega
      have hz := hbs _ (List.getElem_mem hkb)
      have hc : (u8A bs)[0 + k * 1]? = some (.int .u8 (bs[k] : Int)) := by rw [Nat.zero_add, Nat.mul_one]; simp [u8A, hkb]
      refine EvL.skip ?_
      refine thenL_normal ?_
      refine EvL.seq ?_
      refine EvL.block ?_
      refine EvL.seq ?_
      refine EvL.region ?_
      refine Rn.val (St.move rfl) rfl ?_
      refine Rn.val (St.assign rfl) rfl ?_
      refine Rn.done (.cons 3 _ (.cons 5 _ (.cons 7 _ (.cons 8 _ (.cons 36 _ (.cons 37 _ .nil)))))) ⟨⟨rfl, rfl⟩, ⟨rfl, rfl⟩, ⟨rfl, rfl⟩, ⟨rfl, rfl⟩, ⟨rfl, rfl⟩, ⟨rfl, rfl⟩, trivial⟩ ?_
      refine thenL_normal ?_
      refine EvL.region ?_
      refine Rn.val (St.move rfl) rfl ?_
      refine Rn.val (St.move rfl) rfl ?_
      refine Rn.val (St.indexAddr rfl rfl (arr_addr k u22 sz5 (by omega))) rfl ?_
      refine Rn.val (St.load rfl ((x3.keep (KC.kept wC).keep).load1 sh5 hc)) rfl ?_
      refine Rn.val (St.convert rfl (conv_u8 hz)) rfl ?_
      refine Rn.val (St.move rfl) rfl ?_
      refine Rn.val (St.len rfl (mt.sl.len u26)) rfl ?_
      refine Rn.val (St.rem rfl rfl (by omega) (by omega)) rfl ?_
      refine Rn.val (St.buildSlice rfl (one_slice ap28 rfl rfl (by decide))) rfl ?_
      obtain ⟨v49, h49, e49, kb49, o49⟩ := OInts.push (P := Try.prog) (t := 28) (x := ((bs[k] % rs'.length : Nat) : Int)) KC.wf ap28 oo (by rw [ownF_length]; omega) wC.pos KC.next
      refine Rn.val (St.append rfl rfl e49) rfl ?_
      have KC := KC.trans kb49
      rw [← getD_nat hkb, ← ownF_succ] at o49
      refine Rn.val (St.assign rfl) rfl ?_
      refine Rn.done (.cons 3 _ (.cons 5 _ (.cons 7 _ (.cons 36 _ (.cons 37 _ .nil))))) ⟨⟨rfl, rfl⟩, ⟨rfl, rfl⟩, ⟨rfl, rfl⟩, ⟨rfl, rfl⟩, ⟨rfl, rfl⟩, trivial⟩ ?_
      refine blockL_normal ?_
      refine thenL_normal ?_
      refine EvL.region ?_
      refine Rn.val (St.add rfl rfl (by omega) (by omega)) rfl ?_
      refine Rn.val (St.move rfl) rfl ?_
      refine Rn.done (.cons 3 _ (.cons 5 _ (.cons 7 _ (.cons 36 _ (.cons 37 _ .nil))))) ⟨⟨rfl, rfl⟩, ⟨rfl, rfl⟩, ⟨rfl, rfl⟩, ⟨rfl, rfl⟩, ⟨rfl, rfl⟩, trivial⟩ ?_
      exact ⟨K - (k + 1), by omega, k + 1, v49, by omega, rfl, rfl, KC, o49⟩
    · try simp only [decide_eq_true_eq, decide_eq_false_iff_not, Bool.not_eq_true', Bool.not_eq_false', Bool.not_true, Bool.not_false] at b38
      have he : k = K := by omega
      subst he
      have wD := KC.wf
      have mt := mt.keep (KC.kept wC).keep
      have iD := iC.keep (KC.kept wC).keep
      have hol : (ownF bs rs'.length k).length = k := ownF_length _ _ _
      have hown : ∀ j, j < k → ∃ q : Nat, q < rs'.length ∧ (ownF bs rs'.length k)[j]? = some (q : Int) := fun j hj => ⟨bs.getD j 0 % rs'.length, Nat.mod_lt _ hN0, by simp [ownF, hj]⟩
      have po := oo.ints
      generalize hoe : ownF bs rs'.length k = own at po hol hown
      refine EvL.exit ?_
      refine thenL_exit ?_
      refine thenL_exit ?_
      refine blockL_exit ?_
      refine thenL_normal ?_
      refine EvL.seq ?_
      refine EvL.region ?_
      refine Rn.val (St.move rfl) rfl ?_
      refine Rn.val (St.len rfl (mt.sl.len u26)) rfl ?_
      refine Rn.val (St.makeSlice rfl rfl (make_ints ap28 (fun e he => by rw [u28] at he; cases he; exact zero3) (by omega))) rfl ?_
      refine Rn.val (St.assign rfl) rfl ?_
      refine Rn.done (.cons 5 _ (.cons 7 _ (.cons 9 _ .nil))) ⟨⟨rfl, rfl⟩, ⟨rfl, rfl⟩, ⟨rfl, rfl⟩, trivial⟩ ?_
      refine thenL_normal ?_
      refine EvL.seq ?_
      refine EvL.region ?_
      refine Rn.val (St.move rfl) rfl ?_
      refine Rn.val (St.len rfl (mt.sl.len u26)) rfl ?_
      refine Rn.val (St.makeSlice rfl rfl (make_ints ap28 (fun e he => by rw [u28] at he; cases he; exact zero3) (by omega))) rfl ?_
      refine Rn.val (St.assign rfl) rfl ?_
      have F := Two.start wD (List.replicate rs'.length 0) (List.replicate rs'.length 0)
      refine Rn.done (.cons 5 _ (.cons 7 _ (.cons 9 _ (.cons 10 _ .nil)))) ⟨⟨rfl, rfl⟩, ⟨rfl, rfl⟩, ⟨rfl, rfl⟩, ⟨rfl, rfl⟩, trivial⟩ ?_
      refine thenL_normal ?_
      refine EvL.seq ?_
      refine EvL.seq ?_
      refine EvL.region ?_
      refine Rn.val (St.move rfl) rfl ?_
      refine Rn.val (St.len rfl (po.len u28)) rfl ?_
      refine Rn.val (St.move rfl) rfl ?_
      refine Rn.done (.cons 5 _ (.cons 7 _ (.cons 9 _ (.cons 10 _ (.cons 57 _ (.cons 58 _ (.cons 59 _ .nil))))))) ⟨⟨rfl, rfl⟩, ⟨rfl, rfl⟩, ⟨rfl, rfl⟩, ⟨rfl, rfl⟩, ⟨rfl, rfl⟩, ⟨rfl, rfl⟩, ⟨rfl, rfl⟩, trivial⟩ ?_
      refine thenL_normal ?_
      refine EvL.block ?_
      refine EvL.loop (fun m L h' => ∃ (j : Nat), j ≤ own.length ∧ m = own.length - j ∧ L = (.cons 5 v20 (.cons 7 v7 (.cons 9 (.sl hL1.next 0 rs'.length rs'.length 1 true) (.cons 10 (.sl (hL1.next + 1) 0 rs'.length rs'.length 1 true) (.cons 57 v7 (.cons 58 (I own.length) (.cons 59 (I j) .nil))))))) ∧ Two hL1 h' (sumF r0 own rs'.length j) (topF r0 own rs'.length j)) (m := own.length) ?_ ?_
      · exact ⟨0, Nat.zero_le _, rfl, rfl, by rw [sumF_zero, topF_zero]; exact F⟩
      rintro m L hL2 ⟨j, hj, rfl, rfl, F⟩
      refine EvL.seq ?_
      refine EvL.region ?_
      refine Rn.val (St.lss rfl rfl) rfl ?_
      refine Rn.done (.cons 5 _ (.cons 7 _ (.cons 9 _ (.cons 10 _ (.cons 57 _ (.cons 58 _ (.cons 59 _ (.cons 60 _ .nil)))))))) ⟨⟨rfl, rfl⟩, ⟨rfl, rfl⟩, ⟨rfl, rfl⟩, ⟨rfl, rfl⟩, ⟨rfl, rfl⟩, ⟨rfl, rfl⟩, ⟨rfl, rfl⟩, ⟨rfl, rfl⟩, trivial⟩ ?_
      refine thenL_normal ?_
      refine EvL.seq ?_
      refine EvL.cond rfl (fun b60 => ?_) (fun b60 => ?_)
      · try simp only [decide_eq_true_eq, decide_eq_false_iff_not, Bool.not_eq_true', Bool.not_eq_false', Bool.not_true, Bool.not_false] at b60
        have hlt : j < own.length := by omega
        obtain ⟨q, hqN, hq⟩ := hown j (by omega)
        have hqe : own[j] = (q : Int) := by rw [List.getElem?_eq_getElem hlt] at hq; exact Option.some.inj hq
        have hqd : own.getD j (-1) = (q : Int) := by rw [getD_mem hlt]; exact hqe
        have hjr : j < r0.length := by omega
        have hrd : r0.getD j 0 = r0[j] := getD_mem hjr
        have q1 := wS_le (own := own) (of_ := (q : Int)) hr0s j
        have q2 := hr0s _ (List.getElem_mem hjr)
        have kE := F.KB.kept wD
        have mE := mt.keep kE.keep
        have iE := iD.keep kE.keep
        refine EvL.skip ?_
        refine thenL_normal ?_
        refine EvL.seq ?_
        refine EvL.block ?_
        refine EvL.seq ?_
        refine EvL.region ?_
        refine Rn.val (St.move rfl) rfl ?_
        refine Rn.val (St.indexAddr rfl rfl (po.addr u28 sz3 hlt)) rfl ?_
        refine Rn.val (St.load rfl ((po.keep kE.keep).at sh3 hlt)) rfl ?_
        rw [hqe]
        refine Rn.val (St.assign rfl) rfl ?_
        refine Rn.val (St.assign rfl) rfl ?_
        refine Rn.done (.cons 5 _ (.cons 7 _ (.cons 9 _ (.cons 10 _ (.cons 11 _ (.cons 12 _ (.cons 57 _ (.cons 58 _ (.cons 59 _ .nil))))))))) ⟨⟨rfl, rfl⟩, ⟨rfl, rfl⟩, ⟨rfl, rfl⟩, ⟨rfl, rfl⟩, ⟨rfl, rfl⟩, ⟨rfl, rfl⟩, ⟨rfl, rfl⟩, ⟨rfl, rfl⟩, ⟨rfl, rfl⟩, trivial⟩ ?_
        refine thenL_normal ?_
        refine EvL.seq ?_
        refine EvL.draw (ord := [0, 1, 2, 3, 4, 5, 6, 7, 8, 9, 10, 11, 12]) (by kernel_rfl) (by kernel_rfl) ?_
        refine Dr.val (St.move rfl) rfl rfl ?_
        refine Dr.val (St.move rfl) rfl rfl ?_
        refine Dr.val (St.indexAddr rfl rfl ((F.intsS (sumF_length _ _ _ _)).addr u28 sz3 (by rw [sumF_length]; exact hqN))) rfl rfl ?_
        refine Dr.val (St.load rfl (Two.getS F hqN)) rfl rfl ?_
        refine Dr.val (St.move rfl) rfl rfl ?_
        refine Dr.val (St.indexAddr rfl rfl (mE.sl.addr (i := 0) u26 sz28 hN0)) rfl rfl ?_
        refine Dr.val (St.load rfl (mE.sl.cell sh28 ha')) rfl rfl ?_
        refine Dr.val (St.move rfl) rfl rfl ?_
        refine Dr.val (St.indexAddr rfl rfl (iE.addr u28 sz3 hjr)) rfl rfl ?_
        refine Dr.val (St.load rfl (iE.at sh3 hjr)) rfl rfl ?_
        refine Dr.val (St.add rfl rfl (by omega) (by omega)) rfl rfl ?_
        refine Dr.val (St.indexAddr rfl rfl ((F.intsS (sumF_length _ _ _ _)).addr u28 sz3 (by rw [sumF_length]; exact hqN))) rfl rfl ?_
        obtain ⟨h18, e18, F18⟩ := F.setS (N := rs'.length) (P := Try.prog) sz3 wD (i := q) (by rw [sumF_length]; exact hqN) (wS r0 own q j + r0[j])
        refine Dr.val (St.store rfl rfl e18) rfl rfl ?_
        rw [← hrd, sumF_set hqN hqd] at F18
        have k18 := F18.KB.kept wD
        have m18 := mt.keep k18.keep
        have i18 := iD.keep k18.keep
        refine Dr.done (.cons 5 _ (.cons 7 _ (.cons 9 _ (.cons 10 _ (.cons 11 _ (.cons 12 _ (.cons 57 _ (.cons 58 _ (.cons 59 _ .nil))))))))) ⟨⟨rfl, rfl⟩, ⟨rfl, rfl⟩, ⟨rfl, rfl⟩, ⟨rfl, rfl⟩, ⟨rfl, rfl⟩, ⟨rfl, rfl⟩, ⟨rfl, rfl⟩, ⟨rfl, rfl⟩, ⟨rfl, rfl⟩, trivial⟩ (LoadsP.pass rfl rfl (LoadsP.pass rfl rfl (LoadsP.pass rfl rfl (LoadsP.load rfl (LoadP.before (by kernel_rfl) (LoadP.free (St.load rfl (iE.at sh3 hjr)) LoadP.nil)) (LoadsP.pass rfl rfl (LoadsP.pass rfl rfl (LoadsP.load rfl (LoadP.before (by kernel_rfl) (LoadP.free (St.load rfl (mE.sl.cell sh28 ha')) LoadP.nil)) (LoadsP.pass rfl rfl (LoadsP.pass rfl rfl (LoadsP.load rfl (LoadP.before (by kernel_rfl) (LoadP.free (St.load rfl (Two.getS F hqN)) LoadP.nil)) (LoadsP.pass rfl rfl (LoadsP.pass rfl rfl (LoadsP.pass rfl rfl (LoadsP.nil)))))))))))))) ?_
        refine thenL_normal ?_
        refine EvL.draw (ord := [0, 1, 2, 3, 4, 5, 6, 7, 8, 9, 10, 11, 12, 13, 14]) (by kernel_rfl) (by kernel_rfl) ?_
        refine Dr.val (St.move rfl) rfl rfl ?_
        refine Dr.val (St.move rfl) rfl rfl ?_
        refine Dr.val (St.move rfl) rfl rfl ?_
        refine Dr.val (St.move rfl) rfl rfl ?_
        refine Dr.val (St.indexAddr rfl rfl ((F18.intsT (topF_length _ _ _ _)).addr u28 sz3 (by rw [topF_length]; exact hqN))) rfl rfl ?_
        refine Dr.val (St.load rfl (Two.getT F18 hqN)) rfl rfl ?_
        refine Dr.val (St.move rfl) rfl rfl ?_
        refine Dr.val (St.indexAddr rfl rfl (m18.sl.addr (i := 0) u26 sz28 hN0)) rfl rfl ?_
        refine Dr.val (St.load rfl (m18.sl.cell sh28 ha')) rfl rfl ?_
        refine Dr.val (St.move rfl) rfl rfl ?_
        refine Dr.val (St.indexAddr rfl rfl (i18.addr u28 sz3 hjr)) rfl rfl ?_
        refine Dr.val (St.load rfl (i18.at sh3 hjr)) rfl rfl ?_
        refine Dr.val (St.max2 rfl rfl) rfl rfl ?_
        refine Dr.val (St.indexAddr rfl rfl ((F18.intsT (topF_length _ _ _ _)).addr u28 sz3 (by rw [topF_length]; exact hqN))) rfl rfl ?_
        obtain ⟨h19, e19, F19⟩ := F18.setT (N := rs'.length) (P := Try.prog) sz3 wD (i := q) (by rw [topF_length]; exact hqN) (max (gS r0 own q j) r0[j])
        refine Dr.val (St.store rfl rfl e19) rfl rfl ?_
        rw [← hrd, topF_set hqN hqd] at F19
        refine Dr.done (.cons 5 _ (.cons 7 _ (.cons 9 _ (.cons 10 _ (.cons 57 _ (.cons 58 _ (.cons 59 _ .nil))))))) ⟨⟨rfl, rfl⟩, ⟨rfl, rfl⟩, ⟨rfl, rfl⟩, ⟨rfl, rfl⟩, ⟨rfl, rfl⟩, ⟨rfl, rfl⟩, ⟨rfl, rfl⟩, trivial⟩ (LoadsP.pass rfl rfl (LoadsP.pass rfl rfl (LoadsP.pass rfl rfl (LoadsP.load rfl (LoadP.before (by kernel_rfl) (LoadP.free (St.load rfl (i18.at sh3 hjr)) LoadP.nil)) (LoadsP.pass rfl rfl (LoadsP.pass rfl rfl (LoadsP.load rfl (LoadP.before (by kernel_rfl) (LoadP.free (St.load rfl (m18.sl.cell sh28 ha')) LoadP.nil)) (LoadsP.pass rfl rfl (LoadsP.pass rfl rfl (LoadsP.load rfl (LoadP.before (by kernel_rfl) (LoadP.free (St.load rfl (Two.getT F18 hqN)) LoadP.nil)) (LoadsP.pass rfl rfl (LoadsP.pass rfl rfl (LoadsP.pass rfl rfl (LoadsP.pass rfl rfl (LoadsP.pass rfl rfl (LoadsP.nil)))))))))))))))) ?_
        refine blockL_normal ?_
        refine thenL_normal ?_
        refine EvL.region ?_
        refine Rn.val (St.add rfl rfl (by omega) (by omega)) rfl ?_
        refine Rn.val (St.move rfl) rfl ?_
        refine Rn.done (.cons 5 _ (.cons 7 _ (.cons 9 _ (.cons 10 _ (.cons 57 _ (.cons 58 _ (.cons 59 _ .nil))))))) ⟨⟨rfl, rfl⟩, ⟨rfl, rfl⟩, ⟨rfl, rfl⟩, ⟨rfl, rfl⟩, ⟨rfl, rfl⟩, ⟨rfl, rfl⟩, ⟨rfl, rfl⟩, trivial⟩ ?_
        exact ⟨own.length - (j + 1), by omega, j + 1, by omega, rfl, rfl, F19⟩
      · try simp only [decide_eq_true_eq, decide_eq_false_iff_not, Bool.not_eq_true', Bool.not_eq_false', Bool.not_true, Bool.not_false] at b60
        have he : j = own.length := by omega
        subst he
        have kE := F.KB.kept wD
        have q4 : ∀ i : Nat, 0 ≤ wS r0 own i own.length ∧ wS r0 own i own.length ≤ 6000 := fun i => by have := wS_le (own := own) (of_ := (i : Int)) hr0s own.length; omega
        have q5 : ∀ i : Nat, 0 ≤ gS r0 own i own.length ∧ gS r0 own i own.length ≤ 1000 := fun i => gS_le (own := own) (of_ := (i : Int)) hr0s own.length
        generalize hN' : rs'.length = N at *
        refine EvL.exit ?_
        refine thenL_exit ?_
        refine thenL_exit ?_
        refine blockL_exit ?_
        refine thenL_normal ?_
        refine EvL.seq ?_
        refine EvL.region ?_
        refine Rn.val (St.assign rfl) rfl ?_
        refine Rn.val (St.assign rfl) rfl ?_
        refine Rn.done (.cons 5 _ (.cons 7 _ (.cons 9 _ (.cons 10 _ (.cons 13 _ (.cons 14 _ .nil)))))) ⟨⟨rfl, rfl⟩, ⟨rfl, rfl⟩, ⟨rfl, rfl⟩, ⟨rfl, rfl⟩, ⟨rfl, rfl⟩, ⟨rfl, rfl⟩, trivial⟩ ?_
        refine thenL_normal ?_
        refine EvL.seq ?_
        refine EvL.seq ?_
        refine EvL.region ?_
        refine Rn.val (St.move rfl) rfl ?_
        refine Rn.val (St.len rfl ((F.intsS (sumF_length _ _ _ _)).len u28)) rfl ?_
        refine Rn.val (St.move rfl) rfl ?_
        refine Rn.done (.cons 5 _ (.cons 7 _ (.cons 9 _ (.cons 10 _ (.cons 13 _ (.cons 14 _ (.cons 92 _ (.cons 93 _ .nil)))))))) ⟨⟨rfl, rfl⟩, ⟨rfl, rfl⟩, ⟨rfl, rfl⟩, ⟨rfl, rfl⟩, ⟨rfl, rfl⟩, ⟨rfl, rfl⟩, ⟨rfl, rfl⟩, ⟨rfl, rfl⟩, trivial⟩ ?_
        refine thenL_normal ?_
        refine EvL.block ?_
        refine EvL.loop (fun m L h' => ∃ (i : Nat), i ≤ N ∧ m = N - i ∧ L = (.cons 5 v20 (.cons 7 v7 (.cons 9 (.sl hL1.next 0 N N 1 true) (.cons 10 (.sl (hL1.next + 1) 0 N N 1 true) (.cons 13 (.bool (allB (wantP r0 own own.length) N i)) (.cons 14 (.bool (allB (evenP r0 own own.length) N i)) (.cons 92 (I (sumF r0 own N own.length).length) (.cons 93 (I i) .nil)))))))) ∧ hL2 = h') (m := N) ?_ ?_
        · exact ⟨0, Nat.zero_le _, rfl, rfl, rfl⟩
        rintro m L hL3 ⟨i, hi, rfl, rfl, rfl⟩
        refine EvL.seq ?_
        refine EvL.region ?_
        refine Rn.val (St.lss rfl rfl) rfl ?_
        refine Rn.done (.cons 5 _ (.cons 7 _ (.cons 9 _ (.cons 10 _ (.cons 13 _ (.cons 14 _ (.cons 92 _ (.cons 93 _ (.cons 94 _ .nil))))))))) ⟨⟨rfl, rfl⟩, ⟨rfl, rfl⟩, ⟨rfl, rfl⟩, ⟨rfl, rfl⟩, ⟨rfl, rfl⟩, ⟨rfl, rfl⟩, ⟨rfl, rfl⟩, ⟨rfl, rfl⟩, ⟨rfl, rfl⟩, trivial⟩ ?_
        refine thenL_normal ?_
        refine EvL.seq ?_
        refine EvL.cond rfl (fun b94 => ?_) (fun b94 => ?_)
        · try simp only [decide_eq_true_eq, decide_eq_false_iff_not, Bool.not_eq_true', Bool.not_eq_false', Bool.not_true, Bool.not_false] at b94
          rw [sumF_length] at b94
          have hlti : i < N := by omega
          refine EvL.skip ?_
          refine thenL_normal ?_
          refine EvL.seq ?_
          refine EvL.block ?_
          refine EvL.seq ?_
          refine EvL.region ?_
          refine Rn.val (St.move rfl) rfl ?_
          refine Rn.val (St.assign rfl) rfl ?_
          refine Rn.done (.cons 5 _ (.cons 7 _ (.cons 9 _ (.cons 10 _ (.cons 13 _ (.cons 14 _ (.cons 15 _ (.cons 92 _ (.cons 93 _ .nil))))))))) ⟨⟨rfl, rfl⟩, ⟨rfl, rfl⟩, ⟨rfl, rfl⟩, ⟨rfl, rfl⟩, ⟨rfl, rfl⟩, ⟨rfl, rfl⟩, ⟨rfl, rfl⟩, ⟨rfl, rfl⟩, ⟨rfl, rfl⟩, trivial⟩ ?_
          refine thenL_normal ?_
          refine EvL.seq ?_
          refine EvL.region ?_
          refine Rn.val (St.move rfl) rfl ?_
          refine Rn.val (St.len rfl ((F.intsS (sumF_length _ _ _ _)).len u28)) rfl ?_
          refine Rn.val (St.move rfl) rfl ?_
          refine Rn.done (.cons 5 _ (.cons 7 _ (.cons 9 _ (.cons 10 _ (.cons 13 _ (.cons 14 _ (.cons 15 _ (.cons 92 _ (.cons 93 _ (.cons 97 _ (.cons 98 _ .nil))))))))))) ⟨⟨rfl, rfl⟩, ⟨rfl, rfl⟩, ⟨rfl, rfl⟩, ⟨rfl, rfl⟩, ⟨rfl, rfl⟩, ⟨rfl, rfl⟩, ⟨rfl, rfl⟩, ⟨rfl, rfl⟩, ⟨rfl, rfl⟩, ⟨rfl, rfl⟩, ⟨rfl, rfl⟩, trivial⟩ ?_
          refine thenL_normal ?_
          refine EvL.block ?_
          refine EvL.loop (fun m L h' => ∃ (y : Nat), y ≤ N ∧ m = N - y ∧ L = (.cons 5 v20 (.cons 7 v7 (.cons 9 (.sl hL1.next 0 N N 1 true) (.cons 10 (.sl (hL1.next + 1) 0 N N 1 true) (.cons 13 (.bool (allB (wantP r0 own own.length) N i && rowB (wantP r0 own own.length) i y)) (.cons 14 (.bool (allB (evenP r0 own own.length) N i && rowB (evenP r0 own own.length) i y)) (.cons 15 (I i) (.cons 92 (I (sumF r0 own N own.length).length) (.cons 93 (I i) (.cons 97 (I (sumF r0 own N own.length).length) (.cons 98 (I y) .nil))))))))))) ∧ hL2 = h') (m := N) ?_ ?_
          · exact ⟨0, Nat.zero_le _, rfl, by rw [show rowB (wantP r0 own own.length) i 0 = true from rfl, show rowB (evenP r0 own own.length) i 0 = true from rfl, Bool.and_true, Bool.and_true]; rfl, rfl⟩
          rintro m L hL4 ⟨y, hy, rfl, rfl, rfl⟩
          refine EvL.seq ?_
          refine EvL.region ?_
          refine Rn.val (St.lss rfl rfl) rfl ?_
          refine Rn.done (.cons 5 _ (.cons 7 _ (.cons 9 _ (.cons 10 _ (.cons 13 _ (.cons 14 _ (.cons 15 _ (.cons 92 _ (.cons 93 _ (.cons 97 _ (.cons 98 _ (.cons 99 _ .nil)))))))))))) ⟨⟨rfl, rfl⟩, ⟨rfl, rfl⟩, ⟨rfl, rfl⟩, ⟨rfl, rfl⟩, ⟨rfl, rfl⟩, ⟨rfl, rfl⟩, ⟨rfl, rfl⟩, ⟨rfl, rfl⟩, ⟨rfl, rfl⟩, ⟨rfl, rfl⟩, ⟨rfl, rfl⟩, ⟨rfl, rfl⟩, trivial⟩ ?_
          refine thenL_normal ?_
          refine EvL.seq ?_
          refine EvL.cond rfl (fun b99 => ?_) (fun b99 => ?_)
          · try simp only [decide_eq_true_eq, decide_eq_false_iff_not, Bool.not_eq_true', Bool.not_eq_false', Bool.not_true, Bool.not_false] at b99
            rw [sumF_length] at b99
            have hlty : y < N := by omega
            have q4y := q4 y; have q5y := q5 y
            refine EvL.skip ?_
            refine thenL_normal ?_
            refine EvL.seq ?_
            refine EvL.block ?_
            refine EvL.seq ?_
            refine EvL.region ?_
            refine Rn.val (St.move rfl) rfl ?_
            refine Rn.val (St.assign rfl) rfl ?_
            refine Rn.done (.cons 5 _ (.cons 7 _ (.cons 9 _ (.cons 10 _ (.cons 13 _ (.cons 14 _ (.cons 15 _ (.cons 16 _ (.cons 92 _ (.cons 93 _ (.cons 97 _ (.cons 98 _ .nil)))))))))))) ⟨⟨rfl, rfl⟩, ⟨rfl, rfl⟩, ⟨rfl, rfl⟩, ⟨rfl, rfl⟩, ⟨rfl, rfl⟩, ⟨rfl, rfl⟩, ⟨rfl, rfl⟩, ⟨rfl, rfl⟩, ⟨rfl, rfl⟩, ⟨rfl, rfl⟩, ⟨rfl, rfl⟩, ⟨rfl, rfl⟩, trivial⟩ ?_
            refine thenL_normal ?_
            refine EvL.seq ?_
            refine EvL.draw (ord := [0, 1, 2, 3, 4, 5, 6, 7, 8, 9, 10, 11, 12, 13, 14, 15, 16, 17]) (by kernel_rfl) (by kernel_rfl) ?_
            refine Dr.val (St.move rfl) rfl rfl ?_
            refine Dr.val (St.move rfl) rfl rfl ?_
            refine Dr.split (tg := 102) rfl (fun g102 => ?_) (fun g102 => ?_)
            · try simp only [decide_eq_true_eq, decide_eq_false_iff_not, Bool.not_eq_true', Bool.not_eq_false', Bool.not_true, Bool.not_false] at g102
              have hwn : (allB (wantP r0 own own.length) N i && rowB (wantP r0 own own.length) i (y + 1)) = decide (wS r0 own y own.length - gS r0 own y own.length ≤ wS r0 own i own.length) := by rw [rowB, ← Bool.and_assoc, g102, Bool.true_and]; rfl
              refine Dr.guardT (tg := 102) rfl rfl rfl (St.move rfl) rfl ?_
              refine Dr.guardT (tg := 102) rfl rfl rfl (St.move rfl) rfl ?_
              refine Dr.guardT (tg := 102) rfl rfl rfl (St.indexAddr rfl rfl ((F.intsS (sumF_length _ _ _ _)).addr u28 sz3 (by rw [sumF_length]; exact hlty))) rfl ?_
              refine Dr.guardT (tg := 102) rfl rfl rfl (St.load rfl (Two.getS F hlty)) rfl ?_
              refine Dr.guardT (tg := 102) rfl rfl rfl (St.move rfl) rfl ?_
              refine Dr.guardT (tg := 102) rfl rfl rfl (St.move rfl) rfl ?_
              refine Dr.guardT (tg := 102) rfl rfl rfl (St.indexAddr rfl rfl ((F.intsT (topF_length _ _ _ _)).addr u28 sz3 (by rw [topF_length]; exact hlty))) rfl ?_
              refine Dr.guardT (tg := 102) rfl rfl rfl (St.load rfl (Two.getT F hlty)) rfl ?_
              refine Dr.guardT (tg := 102) rfl rfl rfl (St.sub rfl rfl (by omega) (by omega)) rfl ?_
              refine Dr.guardT (tg := 102) rfl rfl rfl (St.move rfl) rfl ?_
              refine Dr.guardT (tg := 102) rfl rfl rfl (St.move rfl) rfl ?_
              refine Dr.guardT (tg := 102) rfl rfl rfl (St.indexAddr rfl rfl ((F.intsS (sumF_length _ _ _ _)).addr u28 sz3 (by rw [sumF_length]; exact hlti))) rfl ?_
              refine Dr.guardT (tg := 102) rfl rfl rfl (St.load rfl (Two.getS F hlti)) rfl ?_
              refine Dr.guardT (tg := 102) rfl rfl rfl (St.leq rfl rfl) rfl ?_
              refine Dr.val (St.pickT rfl rfl rfl) rfl rfl ?_
              refine Dr.val (St.assign rfl) rfl rfl ?_
              refine Dr.done (.cons 5 _ (.cons 7 _ (.cons 9 _ (.cons 10 _ (.cons 13 _ (.cons 14 _ (.cons 15 _ (.cons 16 _ (.cons 92 _ (.cons 93 _ (.cons 97 _ (.cons 98 _ .nil)))))))))))) ⟨⟨rfl, rfl⟩, ⟨rfl, rfl⟩, ⟨rfl, rfl⟩, ⟨rfl, rfl⟩, ⟨rfl, rfl⟩, ⟨rfl, rfl⟩, ⟨rfl, rfl⟩, ⟨rfl, rfl⟩, ⟨rfl, rfl⟩, ⟨rfl, rfl⟩, ⟨rfl, rfl⟩, ⟨rfl, rfl⟩, trivial⟩ (LoadsP.pass rfl rfl (LoadsP.pass rfl rfl (LoadsP.pass rfl rfl (LoadsP.gload 102 rfl rfl rfl (LoadP.free (St.load rfl (Two.getS F hlti)) LoadP.nil) (LoadsP.pass rfl rfl (LoadsP.pass rfl rfl (LoadsP.pass rfl rfl (LoadsP.pass rfl rfl (LoadsP.gload 102 rfl rfl rfl (LoadP.free (St.load rfl (Two.getT F hlty)) LoadP.nil) (LoadsP.pass rfl rfl (LoadsP.pass rfl rfl (LoadsP.pass rfl rfl (LoadsP.gload 102 rfl rfl rfl (LoadP.free (St.load rfl (Two.getS F hlty)) LoadP.nil) (LoadsP.pass rfl rfl (LoadsP.pass rfl rfl (LoadsP.pass rfl rfl (LoadsP.pass rfl rfl (LoadsP.pass rfl rfl (LoadsP.nil))))))))))))))))))) ?_
              refine thenL_normal ?_
              refine EvL.draw (ord := [0, 1, 2, 3, 4, 5, 6, 7, 8, 9, 10, 11, 12]) (by kernel_rfl) (by kernel_rfl) ?_
              refine Dr.val (St.move rfl) rfl rfl ?_
              refine Dr.val (St.move rfl) rfl rfl ?_
              refine Dr.split (tg := 119) rfl (fun g119 => ?_) (fun g119 => ?_)
              · try simp only [decide_eq_true_eq, decide_eq_false_iff_not, Bool.not_eq_true', Bool.not_eq_false', Bool.not_true, Bool.not_false] at g119
                have hen : (allB (evenP r0 own own.length) N i && rowB (evenP r0 own own.length) i (y + 1)) = decide (wS r0 own i own.length = wS r0 own y own.length) := by rw [rowB, ← Bool.and_assoc, g119, Bool.true_and]; rfl
                refine Dr.guardT (tg := 119) rfl rfl rfl (St.move rfl) rfl ?_
                refine Dr.guardT (tg := 119) rfl rfl rfl (St.move rfl) rfl ?_
                refine Dr.guardT (tg := 119) rfl rfl rfl (St.indexAddr rfl rfl ((F.intsS (sumF_length _ _ _ _)).addr u28 sz3 (by rw [sumF_length]; exact hlti))) rfl ?_
                refine Dr.guardT (tg := 119) rfl rfl rfl (St.load rfl (Two.getS F hlti)) rfl ?_
                refine Dr.guardT (tg := 119) rfl rfl rfl (St.move rfl) rfl ?_
                refine Dr.guardT (tg := 119) rfl rfl rfl (St.move rfl) rfl ?_
                refine Dr.guardT (tg := 119) rfl rfl rfl (St.indexAddr rfl rfl ((F.intsS (sumF_length _ _ _ _)).addr u28 sz3 (by rw [sumF_length]; exact hlty))) rfl ?_
                refine Dr.guardT (tg := 119) rfl rfl rfl (St.load rfl (Two.getS F hlty)) rfl ?_
                refine Dr.guardT (tg := 119) rfl rfl rfl (St.eql rfl rfl) rfl ?_
                refine Dr.val (St.pickT rfl rfl rfl) rfl rfl ?_
                refine Dr.val (St.assign rfl) rfl rfl ?_
                refine Dr.done (.cons 5 _ (.cons 7 _ (.cons 9 _ (.cons 10 _ (.cons 13 _ (.cons 14 _ (.cons 15 _ (.cons 92 _ (.cons 93 _ (.cons 97 _ (.cons 98 _ .nil))))))))))) ⟨⟨rfl, rfl⟩, ⟨rfl, rfl⟩, ⟨rfl, rfl⟩, ⟨rfl, rfl⟩, ⟨rfl, rfl⟩, ⟨rfl, rfl⟩, ⟨rfl, rfl⟩, ⟨rfl, rfl⟩, ⟨rfl, rfl⟩, ⟨rfl, rfl⟩, ⟨rfl, rfl⟩, trivial⟩ (LoadsP.pass rfl rfl (LoadsP.pass rfl rfl (LoadsP.pass rfl rfl (LoadsP.gload 119 rfl rfl rfl (LoadP.free (St.load rfl (Two.getS F hlty)) LoadP.nil) (LoadsP.pass rfl rfl (LoadsP.pass rfl rfl (LoadsP.pass rfl rfl (LoadsP.gload 119 rfl rfl rfl (LoadP.free (St.load rfl (Two.getS F hlti)) LoadP.nil) (LoadsP.pass rfl rfl (LoadsP.pass rfl rfl (LoadsP.pass rfl rfl (LoadsP.pass rfl rfl (LoadsP.pass rfl rfl (LoadsP.nil)))))))))))))) ?_
                refine blockL_normal ?_
                refine thenL_normal ?_
                refine EvL.region ?_
                refine Rn.val (St.add rfl rfl (by omega) (by omega)) rfl ?_
                refine Rn.val (St.move rfl) rfl ?_
                refine Rn.done (.cons 5 _ (.cons 7 _ (.cons 9 _ (.cons 10 _ (.cons 13 _ (.cons 14 _ (.cons 15 _ (.cons 92 _ (.cons 93 _ (.cons 97 _ (.cons 98 _ .nil))))))))))) ⟨⟨rfl, rfl⟩, ⟨rfl, rfl⟩, ⟨rfl, rfl⟩, ⟨rfl, rfl⟩, ⟨rfl, rfl⟩, ⟨rfl, rfl⟩, ⟨rfl, rfl⟩, ⟨rfl, rfl⟩, ⟨rfl, rfl⟩, ⟨rfl, rfl⟩, ⟨rfl, rfl⟩, trivial⟩ ?_
                exact ⟨N - (y + 1), by omega, y + 1, by omega, rfl, by rw [hwn, hen]; rfl, rfl⟩
              · try simp only [decide_eq_true_eq, decide_eq_false_iff_not, Bool.not_eq_true', Bool.not_eq_false', Bool.not_true, Bool.not_false] at g119
                have hen : (allB (evenP r0 own own.length) N i && rowB (evenP r0 own own.length) i (y + 1)) = false := by rw [rowB, ← Bool.and_assoc, g119, Bool.false_and]
                refine Dr.guardF (tg := 119) rfl rfl rfl rfl rfl ?_
                refine Dr.guardF (tg := 119) rfl rfl rfl rfl rfl ?_
                refine Dr.guardF (tg := 119) rfl rfl rfl rfl rfl ?_
                refine Dr.guardF (tg := 119) rfl rfl rfl rfl rfl ?_
                refine Dr.guardF (tg := 119) rfl rfl rfl rfl rfl ?_
                refine Dr.guardF (tg := 119) rfl rfl rfl rfl rfl ?_
                refine Dr.guardF (tg := 119) rfl rfl rfl rfl rfl ?_
                refine Dr.guardF (tg := 119) rfl rfl rfl rfl rfl ?_
                refine Dr.guardF (tg := 119) rfl rfl rfl rfl rfl ?_
                refine Dr.val (St.pickF rfl rfl rfl) rfl rfl ?_
                refine Dr.val (St.assign rfl) rfl rfl ?_
                refine Dr.done (.cons 5 _ (.cons 7 _ (.cons 9 _ (.cons 10 _ (.cons 13 _ (.cons 14 _ (.cons 15 _ (.cons 92 _ (.cons 93 _ (.cons 97 _ (.cons 98 _ .nil))))))))))) ⟨⟨rfl, rfl⟩, ⟨rfl, rfl⟩, ⟨rfl, rfl⟩, ⟨rfl, rfl⟩, ⟨rfl, rfl⟩, ⟨rfl, rfl⟩, ⟨rfl, rfl⟩, ⟨rfl, rfl⟩, ⟨rfl, rfl⟩, ⟨rfl, rfl⟩, ⟨rfl, rfl⟩, trivial⟩ (LoadsP.pass rfl rfl (LoadsP.pass rfl rfl (LoadsP.pass rfl rfl (LoadsP.gskip 119 rfl rfl rfl rfl rfl (LoadsP.pass rfl rfl (LoadsP.pass rfl rfl (LoadsP.pass rfl rfl (LoadsP.gskip 119 rfl rfl rfl rfl rfl (LoadsP.pass rfl rfl (LoadsP.pass rfl rfl (LoadsP.pass rfl rfl (LoadsP.pass rfl rfl (LoadsP.pass rfl rfl (LoadsP.nil)))))))))))))) ?_
                refine blockL_normal ?_
                refine thenL_normal ?_
                refine EvL.region ?_
                refine Rn.val (St.add rfl rfl (by omega) (by omega)) rfl ?_
                refine Rn.val (St.move rfl) rfl ?_
                refine Rn.done (.cons 5 _ (.cons 7 _ (.cons 9 _ (.cons 10 _ (.cons 13 _ (.cons 14 _ (.cons 15 _ (.cons 92 _ (.cons 93 _ (.cons 97 _ (.cons 98 _ .nil))))))))))) ⟨⟨rfl, rfl⟩, ⟨rfl, rfl⟩, ⟨rfl, rfl⟩, ⟨rfl, rfl⟩, ⟨rfl, rfl⟩, ⟨rfl, rfl⟩, ⟨rfl, rfl⟩, ⟨rfl, rfl⟩, ⟨rfl, rfl⟩, ⟨rfl, rfl⟩, ⟨rfl, rfl⟩, trivial⟩ ?_
                exact ⟨N - (y + 1), by omega, y + 1, by omega, rfl, by rw [hwn, hen]; rfl, rfl⟩
            · try simp only [decide_eq_true_eq, decide_eq_false_iff_not, Bool.not_eq_true', Bool.not_eq_false', Bool.not_true, Bool.not_false] at g102
              have hwn : (allB (wantP r0 own own.length) N i && rowB (wantP r0 own own.length) i (y + 1)) = false := by rw [rowB, ← Bool.and_assoc, g102, Bool.false_and]
              refine Dr.guardF (tg := 102) rfl rfl rfl rfl rfl ?_
              refine Dr.guardF (tg := 102) rfl rfl rfl rfl rfl ?_
              refine Dr.guardF (tg := 102) rfl rfl rfl rfl rfl ?_
              refine Dr.guardF (tg := 102) rfl rfl rfl rfl rfl ?_
              refine Dr.guardF (tg := 102) rfl rfl rfl rfl rfl ?_
              refine Dr.guardF (tg := 102) rfl rfl rfl rfl rfl ?_
              refine Dr.guardF (tg := 102) rfl rfl rfl rfl rfl ?_
              refine Dr.guardF (tg := 102) rfl rfl rfl rfl rfl ?_
              refine Dr.guardF (tg := 102) rfl rfl rfl rfl rfl ?_
              refine Dr.guardF (tg := 102) rfl rfl rfl rfl rfl ?_
              refine Dr.guardF (tg := 102) rfl rfl rfl rfl rfl ?_
              refine Dr.guardF (tg := 102) rfl rfl rfl rfl rfl ?_
              refine Dr.guardF (tg := 102) rfl rfl rfl rfl rfl ?_
              refine Dr.guardF (tg := 102) rfl rfl rfl rfl rfl ?_
              refine Dr.val (St.pickF rfl rfl rfl) rfl rfl ?_
              refine Dr.val (St.assign rfl) rfl rfl ?_
              refine Dr.done (.cons 5 _ (.cons 7 _ (.cons 9 _ (.cons 10 _ (.cons 13 _ (.cons 14 _ (.cons 15 _ (.cons 16 _ (.cons 92 _ (.cons 93 _ (.cons 97 _ (.cons 98 _ .nil)))))))))))) ⟨⟨rfl, rfl⟩, ⟨rfl, rfl⟩, ⟨rfl, rfl⟩, ⟨rfl, rfl⟩, ⟨rfl, rfl⟩, ⟨rfl, rfl⟩, ⟨rfl, rfl⟩, ⟨rfl, rfl⟩, ⟨rfl, rfl⟩, ⟨rfl, rfl⟩, ⟨rfl, rfl⟩, ⟨rfl, rfl⟩, trivial⟩ (LoadsP.pass rfl rfl (LoadsP.pass rfl rfl (LoadsP.pass rfl rfl (LoadsP.gskip 102 rfl rfl rfl rfl rfl (LoadsP.pass rfl rfl (LoadsP.pass rfl rfl (LoadsP.pass rfl rfl (LoadsP.pass rfl rfl (LoadsP.gskip 102 rfl rfl rfl rfl rfl (LoadsP.pass rfl rfl (LoadsP.pass rfl rfl (LoadsP.pass rfl rfl (LoadsP.gskip 102 rfl rfl rfl rfl rfl (LoadsP.pass rfl rfl (LoadsP.pass rfl rfl (LoadsP.pass rfl rfl (LoadsP.pass rfl rfl (LoadsP.pass rfl rfl (LoadsP.nil))))))))))))))))))) ?_
              refine thenL_normal ?_
              refine EvL.draw (ord := [0, 1, 2, 3, 4, 5, 6, 7, 8, 9, 10, 11, 12]) (by kernel_rfl) (by kernel_rfl) ?_
              refine Dr.val (St.move rfl) rfl rfl ?_
              refine Dr.val (St.move rfl) rfl rfl ?_
              refine Dr.split (tg := 119) rfl (fun g119 => ?_) (fun g119 => ?_)
              · try simp only [decide_eq_true_eq, decide_eq_false_iff_not, Bool.not_eq_true', Bool.not_eq_false', Bool.not_true, Bool.not_false] at g119
                have hen : (allB (evenP r0 own own.length) N i && rowB (evenP r0 own own.length) i (y + 1)) = decide (wS r0 own i own.length = wS r0 own y own.length) := by rw [rowB, ← Bool.and_assoc, g119, Bool.true_and]; rfl
                refine Dr.guardT (tg := 119) rfl rfl rfl (St.move rfl) rfl ?_
                refine Dr.guardT (tg := 119) rfl rfl rfl (St.move rfl) rfl ?_
                refine Dr.guardT (tg := 119) rfl rfl rfl (St.indexAddr rfl rfl ((F.intsS (sumF_length _ _ _ _)).addr u28 sz3 (by rw [sumF_length]; exact hlti))) rfl ?_
                refine Dr.guardT (tg := 119) rfl rfl rfl (St.load rfl (Two.getS F hlti)) rfl ?_
                refine Dr.guardT (tg := 119) rfl rfl rfl (St.move rfl) rfl ?_
                refine Dr.guardT (tg := 119) rfl rfl rfl (St.move rfl) rfl ?_
                refine Dr.guardT (tg := 119) rfl rfl rfl (St.indexAddr rfl rfl ((F.intsS (sumF_length _ _ _ _)).addr u28 sz3 (by rw [sumF_length]; exact hlty))) rfl ?_
                refine Dr.guardT (tg := 119) rfl rfl rfl (St.load rfl (Two.getS F hlty)) rfl ?_
                refine Dr.guardT (tg := 119) rfl rfl rfl (St.eql rfl rfl) rfl ?_
                refine Dr.val (St.pickT rfl rfl rfl) rfl rfl ?_
                refine Dr.val (St.assign rfl) rfl rfl ?_
                refine Dr.done (.cons 5 _ (.cons 7 _ (.cons 9 _ (.cons 10 _ (.cons 13 _ (.cons 14 _ (.cons 15 _ (.cons 92 _ (.cons 93 _ (.cons 97 _ (.cons 98 _ .nil))))))))))) ⟨⟨rfl, rfl⟩, ⟨rfl, rfl⟩, ⟨rfl, rfl⟩, ⟨rfl, rfl⟩, ⟨rfl, rfl⟩, ⟨rfl, rfl⟩, ⟨rfl, rfl⟩, ⟨rfl, rfl⟩, ⟨rfl, rfl⟩, ⟨rfl, rfl⟩, ⟨rfl, rfl⟩, trivial⟩ (LoadsP.pass rfl rfl (LoadsP.pass rfl rfl (LoadsP.pass rfl rfl (LoadsP.gload 119 rfl rfl rfl (LoadP.free (St.load rfl (Two.getS F hlty)) LoadP.nil) (LoadsP.pass rfl rfl (LoadsP.pass rfl rfl (LoadsP.pass rfl rfl (LoadsP.gload 119 rfl rfl rfl (LoadP.free (St.load rfl (Two.getS F hlti)) LoadP.nil) (LoadsP.pass rfl rfl (LoadsP.pass rfl rfl (LoadsP.pass rfl rfl (LoadsP.pass rfl rfl (LoadsP.pass rfl rfl (LoadsP.nil)))))))))))))) ?_
                refine blockL_normal ?_
                refine thenL_normal ?_
                refine EvL.region ?_
                refine Rn.val (St.add rfl rfl (by omega) (by omega)) rfl ?_
                refine Rn.val (St.move rfl) rfl ?_
                refine Rn.done (.cons 5 _ (.cons 7 _ (.cons 9 _ (.cons 10 _ (.cons 13 _ (.cons 14 _ (.cons 15 _ (.cons 92 _ (.cons 93 _ (.cons 97 _ (.cons 98 _ .nil))))))))))) ⟨⟨rfl, rfl⟩, ⟨rfl, rfl⟩, ⟨rfl, rfl⟩, ⟨rfl, rfl⟩, ⟨rfl, rfl⟩, ⟨rfl, rfl⟩, ⟨rfl, rfl⟩, ⟨rfl, rfl⟩, ⟨rfl, rfl⟩, ⟨rfl, rfl⟩, ⟨rfl, rfl⟩, trivial⟩ ?_
                exact ⟨N - (y + 1), by omega, y + 1, by omega, rfl, by rw [hwn, hen]; rfl, rfl⟩
              · try simp only [decide_eq_true_eq, decide_eq_false_iff_not, Bool.not_eq_true', Bool.not_eq_false', Bool.not_true, Bool.not_false] at g119
                have hen : (allB (evenP r0 own own.length) N i && rowB (evenP r0 own own.length) i (y + 1)) = false := by rw [rowB, ← Bool.and_assoc, g119, Bool.false_and]
                refine Dr.guardF (tg := 119) rfl rfl rfl rfl rfl ?_
                refine Dr.guardF (tg := 119) rfl rfl rfl rfl rfl ?_
                refine Dr.guardF (tg := 119) rfl rfl rfl rfl rfl ?_
                refine Dr.guardF (tg := 119) rfl rfl rfl rfl rfl ?_
                refine Dr.guardF (tg := 119) rfl rfl rfl rfl rfl ?_
                refine Dr.guardF (tg := 119) rfl rfl rfl rfl rfl ?_
                refine Dr.guardF (tg := 119) rfl rfl rfl rfl rfl ?_
                refine Dr.guardF (tg := 119) rfl rfl rfl rfl rfl ?_
                refine Dr.guardF (tg := 119) rfl rfl rfl rfl rfl ?_
                refine Dr.val (St.pickF rfl rfl rfl) rfl rfl ?_
                refine Dr.val (St.assign rfl) rfl rfl ?_
                refine Dr.done (.cons 5 _ (.cons 7 _ (.cons 9 _ (.cons 10 _ (.cons 13 _ (.cons 14 _ (.cons 15 _ (.cons 92 _ (.cons 93 _ (.cons 97 _ (.cons 98 _ .nil))))))))))) ⟨⟨rfl, rfl⟩, ⟨rfl, rfl⟩, ⟨rfl, rfl⟩, ⟨rfl, rfl⟩, ⟨rfl, rfl⟩, ⟨rfl, rfl⟩, ⟨rfl, rfl⟩, ⟨rfl, rfl⟩, ⟨rfl, rfl⟩, ⟨rfl, rfl⟩, ⟨rfl, rfl⟩, trivial⟩ (LoadsP.pass rfl rfl (LoadsP.pass rfl rfl (LoadsP.pass rfl rfl (LoadsP.gskip 119 rfl rfl rfl rfl rfl (LoadsP.pass rfl rfl (LoadsP.pass rfl rfl (LoadsP.pass rfl rfl (LoadsP.gskip 119 rfl rfl rfl rfl rfl (LoadsP.pass rfl rfl (LoadsP.pass rfl rfl (LoadsP.pass rfl rfl (LoadsP.pass rfl rfl (LoadsP.pass rfl rfl (LoadsP.nil)))))))))))))) ?_
                refine blockL_normal ?_
                refine thenL_normal ?_
                refine EvL.region ?_
                refine Rn.val (St.add rfl rfl (by omega) (by omega)) rfl ?_
                refine Rn.val (St.move rfl) rfl ?_
                refine Rn.done (.cons 5 _ (.cons 7 _ (.cons 9 _ (.cons 10 _ (.cons 13 _ (.cons 14 _ (.cons 15 _ (.cons 92 _ (.cons 93 _ (.cons 97 _ (.cons 98 _ .nil))))))))))) ⟨⟨rfl, rfl⟩, ⟨rfl, rfl⟩, ⟨rfl, rfl⟩, ⟨rfl, rfl⟩, ⟨rfl, rfl⟩, ⟨rfl, rfl⟩, ⟨rfl, rfl⟩, ⟨rfl, rfl⟩, ⟨rfl, rfl⟩, ⟨rfl, rfl⟩, ⟨rfl, rfl⟩, trivial⟩ ?_
                exact ⟨N - (y + 1), by omega, y + 1, by omega, rfl, by rw [hwn, hen]; rfl, rfl⟩
          · try simp only [decide_eq_true_eq, decide_eq_false_iff_not, Bool.not_eq_true', Bool.not_eq_false', Bool.not_true, Bool.not_false] at b99
            rw [sumF_length] at b99
            have he : y = N := by omega
            subst he
            refine EvL.exit ?_
            refine thenL_exit ?_
            refine thenL_exit ?_
            refine blockL_exit ?_
            refine blockL_normal ?_
            refine thenL_normal ?_
            refine EvL.region ?_
            refine Rn.val (St.add rfl rfl (by omega) (by omega)) rfl ?_
            refine Rn.val (St.move rfl) rfl ?_
            refine Rn.done (.cons 5 _ (.cons 7 _ (.cons 9 _ (.cons 10 _ (.cons 13 _ (.cons 14 _ (.cons 92 _ (.cons 93 _ .nil)))))))) ⟨⟨rfl, rfl⟩, ⟨rfl, rfl⟩, ⟨rfl, rfl⟩, ⟨rfl, rfl⟩, ⟨rfl, rfl⟩, ⟨rfl, rfl⟩, ⟨rfl, rfl⟩, ⟨rfl, rfl⟩, trivial⟩ ?_
            exact ⟨y - (i + 1), by omega, i + 1, by omega, rfl, rfl, rfl⟩
        · try simp only [decide_eq_true_eq, decide_eq_false_iff_not, Bool.not_eq_true', Bool.not_eq_false', Bool.not_true, Bool.not_false] at b94
          rw [sumF_length] at b94
          have he : i = N := by omega
          subst he
          have d : Dv hL2 v20 v7 vs' rs' own := ⟨mt.keep kE.keep, po.keep kE.keep⟩
          have hfit : Fit rs' own := by
            have hrow : ∀ r ∈ rs', r = r0 := fun r hr => by
              obtain ⟨k, hk, rfl⟩ := List.getElem_of_mem hr
              have := hall k (by omega)
              rw [List.getElem?_eq_getElem hk] at this
              exact Option.some.inj this
            refine ⟨by omega, by omega, fun r hr => by rw [hrow r hr]; omega, by omega, fun r hr => by rw [hrow r hr]; exact hr0v, fun x hx => ?_⟩
            obtain ⟨k, hk, rfl⟩ := List.getElem_of_mem hx
            obtain ⟨q, hq, hqe⟩ := hown k (by omega)
            rw [List.getElem?_eq_getElem hk] at hqe
            rw [Option.some.inj hqe]; omega
          have hl1 := law_one (own := own) hN' (fun k hk => hall k (by omega))
          have hl2 := law_two (own := own) hN' (fun k hk => hall k (by omega)) hr0s
          refine EvL.exit ?_
          refine thenL_exit ?_
          refine thenL_exit ?_
          refine blockL_exit ?_
          refine thenL_normal ?_
          refine EvL.seq ?_
          refine EvL.region ?_
          refine Rn.val (St.move rfl) rfl ?_
          refine Rn.val (St.move rfl) rfl ?_
          refine Rn.call rfl rfl rfl (fair_cl hO F.KB.wf d hfit) fun v135 h135 c135 => ?_
          obtain ⟨rfl, k135⟩ := c135
          refine Rn.val (St.move rfl) rfl ?_
          refine Rn.val (St.extract rfl rfl) rfl ?_
          refine Rn.val (St.extract rfl rfl) rfl ?_
          refine Rn.val (St.assign rfl) rfl ?_
          refine Rn.val (St.assign rfl) rfl ?_
          refine Rn.done (.cons 13 _ (.cons 14 _ (.cons 17 _ (.cons 18 _ .nil)))) ⟨⟨rfl, rfl⟩, ⟨rfl, rfl⟩, ⟨rfl, rfl⟩, ⟨rfl, rfl⟩, trivial⟩ ?_
          refine thenL_normal ?_
          refine EvL.seq ?_
          refine EvL.region ?_
          refine Rn.val (St.move rfl) rfl ?_
          refine Rn.val (St.eql rfl rfl) rfl ?_
          refine Rn.val (St.move rfl) rfl ?_
          refine Rn.split (tg := 140) rfl (fun g140 => ?_) (fun g140 => ?_)
          · try simp only [decide_eq_true_eq, decide_eq_false_iff_not, Bool.not_eq_true', Bool.not_eq_false', Bool.not_true, Bool.not_false] at g140
            refine Rn.guardT (tg := 140) rfl rfl ?_
            refine Rn.val (St.move rfl) rfl ?_
            refine Rn.guardT (tg := 140) rfl rfl ?_
            refine Rn.val (St.gtr rfl rfl) rfl ?_
            refine Rn.guardT (tg := 140) rfl rfl ?_
            refine Rn.val (St.move rfl) rfl ?_
            refine Rn.guardT (tg := 140) rfl rfl ?_
            refine Rn.val (St.bin rfl rfl (eqBool _ _)) rfl ?_
            refine Rn.val (St.pickT rfl rfl rfl) rfl ?_
            refine Rn.val (St.move rfl) rfl ?_
            refine Rn.split (tg := 146) rfl (fun g146 => ?_) (fun g146 => ?_)
            · try simp only [decide_eq_true_eq, decide_eq_false_iff_not, Bool.not_eq_true', Bool.not_eq_false', Bool.not_true, Bool.not_false] at g146
              refine Rn.guardT (tg := 146) rfl rfl ?_
              refine Rn.val (St.move rfl) rfl ?_
              refine Rn.guardT (tg := 146) rfl rfl ?_
              refine Rn.val (St.eql rfl rfl) rfl ?_
              refine Rn.guardT (tg := 146) rfl rfl ?_
              refine Rn.val (St.move rfl) rfl ?_
              refine Rn.guardT (tg := 146) rfl rfl ?_
              refine Rn.val (St.bin rfl rfl (eqBool _ _)) rfl ?_
              refine Rn.val (St.pickT rfl rfl rfl) rfl ?_
              refine Rn.val (St.move rfl) rfl ?_
              refine Rn.split (tg := 152) rfl (fun g152 => ?_) (fun g152 => ?_)
              · try simp only [decide_eq_true_eq, decide_eq_false_iff_not, Bool.not_eq_true', Bool.not_eq_false', Bool.not_true, Bool.not_false] at g152
                refine Rn.guardT (tg := 152) rfl rfl ?_
                refine Rn.call rfl rfl rfl (works_cl hW) fun v153 h153 c153 => ?_
                obtain ⟨rfl, rfl⟩ := c153
                refine Rn.val (St.pickT rfl rfl rfl) rfl ?_
                refine Rn.val (St.assign rfl) rfl ?_
                refine Rn.done (.cons 4 _ .nil) ⟨⟨rfl, rfl⟩, trivial⟩ ?_
                refine thenL_normal ?_
                refine EvL.ret ?_
                refine endL_ret rfl ?_
                exact rfl
              · try simp only [decide_eq_true_eq, decide_eq_false_iff_not, Bool.not_eq_true', Bool.not_eq_false', Bool.not_true, Bool.not_false] at g152
                
                have hl2' := hl2
                unfold fairV at hl2'
                rw [hl2'] at g152
                cases g152
            · try simp only [decide_eq_true_eq, decide_eq_false_iff_not, Bool.not_eq_true', Bool.not_eq_false', Bool.not_true, Bool.not_false] at g146
              
              have hl1' := hl1
              unfold fairV at hl1'
              rw [hl1'] at g146
              cases g146
          · try simp only [decide_eq_true_eq, decide_eq_false_iff_not, Bool.not_eq_true', Bool.not_eq_false', Bool.not_true, Bool.not_false] at g140
            first | exact absurd rfl g140 | exact absurd trivial g140

end
end
end Go.Proofs.Ytllldiokcnheiaa.Sh
