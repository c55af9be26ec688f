/- Walks: clones, deletions, the fewest finds, strikes, and inputs made out of numbers: each returns what its plain function says, for finds within the limits. -/
import Derived.Test.YtkhnkkbpibpaaaaRgB

namespace Go.Proofs.Ytkhnkkbpibpaaaa.Rg
open Go.Proofs Go.Proofs.Ytkhnkkbpibpaaaa.Ab
set_option linter.unusedVariables false
set_option linter.unusedSimpArgs false
set_option maxHeartbeats 2000000
set_option maxRecDepth 100000
noncomputable section

/-- Finds that are as they should be. -/
structure Valid (n : Nat) (S : List Find) : Prop where
  n0 : 1 ≤ n
  n6 : n ≤ 6
  len : S.length ≤ 12
  lt : ∀ x ∈ S, x.1 < n ∧ x.2 < n
  ne : ∀ x ∈ S, x.1 ≠ x.2

theorem Valid.sub {n : Nat} {S S' : List Find} (hv : Valid n S) (hl : S'.length ≤ 12) (hs : ∀ x ∈ S', x ∈ S) : Valid n S' := ⟨hv.n0, hv.n6, hl, fun x hx => hv.lt x (hs x hx), fun x hx => hv.ne x (hs x hx)⟩

theorem chk_valid {n : Nat} : ∀ {S : List Find}, (∀ x ∈ S, x.1 < n ∧ x.2 < n) → (∀ x ∈ S, x.1 ≠ x.2) → chk n (prs S) = 0
  | [], _, _ => rfl
  | x :: S, h1, h2 => by
    show (if badF n (toPr x) = 0 then chk n (prs S) else badF n (toPr x)) = 0
    have hx := h1 x (by simp)
    have hy := h2 x (by simp)
    have : badF n (toPr x) = 0 := by
      unfold badF
      rw [if_neg (by dsimp only [toPr]; omega), if_neg (by dsimp only [toPr]; omega)]
    rw [if_pos this]
    exact chk_valid (fun y hy => h1 y (by simp [hy])) (fun y hy => h2 y (by simp [hy]))

theorem Valid.check {n : Nat} {S : List Find} (hv : Valid n S) : checkE n (prs S) = 0 := by
  have h1 := hv.n0; have h2 := hv.n6; have h3 := hv.len
  unfold checkE
  rw [if_neg (by omega), if_neg (by rw [prs_length]; omega)]
  exact chk_valid hv.lt hv.ne

theorem cl_any {O : CallF} {n : Nat} (hO : OK O) {h : AH} : ∀ h', KeepB h.next h h' → ∀ form done : Nat, form < n → done < 2 ^ n → Cl Try.prog O 0 52 ([] ++ [I form, I done] ++ []) h' (fun r h'' => r = .bool (any form done) ∧ h' = h'') :=
  fun h' _ form done _ _ => anyForm_cl hO _ _

/-- The finds that are struck, by their numbers. -/
def strikeIx (n : Nat) : List Find → List Find → Nat → List Nat
  | _, [], _ => []
  | kept, x :: r, i => if fewF n (kept ++ r) < fewF n (kept ++ x :: r) then i :: strikeIx n kept r (i + 1) else strikeIx n (kept ++ [x]) r (i + 1)

theorem strikeIx_len (n : Nat) : ∀ (r kept : List Find) (i : Nat), (strikeIx n kept r i).length = struck n kept r
  | [], kept, i => rfl
  | x :: r, kept, i => by
    unfold strikeIx struck
    split
    · simp [strikeIx_len n r]
    · exact strikeIx_len n r _ _

abbrev nums (l : List Nat) : List Int := List.map (fun x : Nat => (x : Int)) l

/-! ### Inputs out of numbers -/

def u8P : List (Nat × Nat) → List AV
  | [] => []
  | p :: r => .int .u8 (p.1 : Int) :: .int .u8 (p.2 : Int) :: u8P r
theorem u8P_length : ∀ l : List (Nat × Nat), (u8P l).length = l.length * 2
  | [] => rfl
  | p :: r => by simp [u8P, u8P_length r]; omega
theorem u8P_part : ∀ (l : List (Nat × Nat)) (i : Nat) (hi : i < l.length), ((u8P l).drop (i * 2)).take 2 = [.int .u8 (l[i].1 : Int), .int .u8 (l[i].2 : Int)]
  | p :: r, 0, _ => rfl
  | p :: r, i + 1, hi => by
    have : (i + 1) * 2 = i * 2 + 1 + 1 := by omega
    rw [this]
    simpa [u8P] using u8P_part r i (by simpa using hi)
theorem u8P_take : ∀ (l : List (Nat × Nat)) (i : Nat), (u8P l).take (i * 2) = u8P (l.take i)
  | [], i => by simp [u8P]
  | p :: r, 0 => by simp [u8P]
  | p :: r, i + 1 => by
    have : (i + 1) * 2 = i * 2 + 1 + 1 := by omega
    rw [this]
    simp [u8P, u8P_take r i]

theorem conv_u8 {n : Nat} (hn : n < 256) : convA Try.prog 5 3 (.int .u8 (n : Int)) = some (I (n : Int)) := by
  unfold convA
  have h5 : Try.prog.underlying 5 = some (.int .u8) := by kernel_rfl
  have h3 : Try.prog.underlying 3 = some (.int .i64) := by kernel_rfl
  simp only [h5, h3]
  rw [wrapF_self (by omega) (by omega)]
theorem build44 (x y : Int) : buildA Try.prog 44 [(0, I x), (1, I y)] = some (.agg [I x, I y]) := by rfl

/-- The cells of the law's Layers. -/
def layCells (f k : Nat) (by_ : List (Nat × Nat)) : List AV := .int .u8 (f : Int) :: .int .u8 (k : Int) :: u8P by_

/-- Numbers of bytes. -/
structure Bytes (f k : Nat) (by_ : List (Nat × Nat)) : Prop where
  f : f < 256
  k : k < 256
  len : by_.length = 12
  lt : ∀ x ∈ by_, x.1 < 256 ∧ x.2 < 256

def madeN (f most : Nat) : Nat := 2 + f % (most - 1)
def madeF (n : Nat) (x : Nat × Nat) : Find := (x.1 % n, (x.1 % n + 1 + x.2 % (n - 1)) % n)
def madeS (f k : Nat) (by_ : List (Nat × Nat)) (most many : Nat) : List Find := (by_.take (k % (many + 1))).map (madeF (madeN f most))

theorem madeF_ok {n : Nat} (hn : 2 ≤ n) (x : Nat × Nat) : (madeF n x).1 < n ∧ (madeF n x).2 < n ∧ (madeF n x).1 ≠ (madeF n x).2 := by
  have h1 : x.1 % n < n := Nat.mod_lt _ (by omega)
  have h2 : x.2 % (n - 1) < n - 1 := Nat.mod_lt _ (by omega)
  have h3 : (x.1 % n + 1 + x.2 % (n - 1)) % n < n := Nat.mod_lt _ (by omega)
  refine ⟨h1, h3, ?_⟩
  show x.1 % n ≠ (x.1 % n + 1 + x.2 % (n - 1)) % n
  generalize x.1 % n = a at *
  generalize x.2 % (n - 1) = b at *
  by_cases h : a + 1 + b < n
  · rw [Nat.mod_eq_of_lt h]; omega
  · rw [Nat.mod_eq_sub_mod (by omega), Nat.mod_eq_of_lt (by omega)]; omega

theorem madeN_le {f most : Nat} (hm : 2 ≤ most) : 2 ≤ madeN f most ∧ madeN f most ≤ most := by
  unfold madeN
  have : f % (most - 1) < most - 1 := Nat.mod_lt _ (by omega)
  omega

theorem madeS_valid {f k : Nat} {by_ : List (Nat × Nat)} {most many : Nat} (hm : 2 ≤ most) (hm6 : most ≤ 6) (hmany : many ≤ 12) : Valid (madeN f most) (madeS f k by_ most many) := by
  have hn := madeN_le (f := f) hm
  have hlen : (madeS f k by_ most many).length ≤ many := by
    unfold madeS
    have : k % (many + 1) < many + 1 := Nat.mod_lt _ (by omega)
    simp; omega
  refine ⟨by omega, by omega, by omega, fun x hx => ?_, fun x hx => ?_⟩
  · obtain ⟨y, _, rfl⟩ := List.mem_map.1 hx
    have := madeF_ok hn.1 y
    exact ⟨this.1, this.2.1⟩
  · obtain ⟨y, _, rfl⟩ := List.mem_map.1 hx
    exact (madeF_ok hn.1 y).2.2

theorem prs_take_succ {S : List Find} {i : Nat} (hi : i < S.length) : prs (S.take i) ++ [toPr S[i]] = prs (S.take (i + 1)) := by
  unfold prs
  rw [List.take_succ_eq_append_getElem hi, List.map_append]
  rfl

section
variable {O : CallF} {h : AH}

theorem clonePairs_cl (hO : OK O) (hw : WF h) {v : AV} {S : List Pr} (p : Pairs h v S) (hS : S.length ≤ 1048576) : Cl Try.prog O 0 24 [v] h (fun r h' => Kept h h' ∧ OPairs h.next h' r S) := by
  refine Cl.intro (N := 8) (K := 21) (hO _ _ _ (by decide)) Try.func24 rfl rfl (k := 1) rfl rfl rfl (by kernel_rfl) (.cons 0 _ .nil) ⟨⟨rfl, rfl⟩, trivial⟩ ?_
  refine EvL.seq ?_
  refine EvL.region ?_
  refine Rn.val (St.assign rfl) rfl ?_
  refine Rn.done (.cons 0 _ .nil) ⟨⟨rfl, rfl⟩, trivial⟩ ?_
  refine thenL_normal ?_
  refine EvL.seq ?_
  refine EvL.seq ?_
  refine EvL.region ?_
  refine Rn.val (St.move rfl) rfl ?_
  refine Rn.val (St.bin rfl rfl (Sl.eqNil p u22)) rfl ?_
  refine Rn.done (.cons 0 _ (.cons 4 _ .nil)) ⟨⟨rfl, rfl⟩, ⟨rfl, rfl⟩, trivial⟩ ?_
  refine thenL_normal ?_
  refine EvL.cond rfl (fun b4 => ?_) (fun b4 => ?_)
  · try simp only [decide_eq_true_eq, decide_eq_false_iff_not, Bool.not_eq_true', Bool.not_eq_false', Bool.not_true, Bool.not_false] at b4
    obtain ⟨rfl, h0, _⟩ := p.isNil_iff b4
    have hS0 : S = [] := List.eq_nil_of_length_eq_zero h0
    subst hS0
    refine EvL.seq ?_
    refine EvL.region ?_
    refine Rn.val (St.assign rfl) rfl ?_
    refine Rn.done (.cons 2 _ .nil) ⟨⟨rfl, rfl⟩, trivial⟩ ?_
    refine thenL_normal ?_
    refine EvL.ret ?_
    refine thenL_ret ?_
    refine endL_ret rfl ?_
    exact ⟨.refl hw, Osl.nil _ _ _⟩
  · try simp only [decide_eq_true_eq, decide_eq_false_iff_not, Bool.not_eq_true', Bool.not_eq_false', Bool.not_true, Bool.not_false] at b4
    refine EvL.skip ?_
    refine thenL_normal ?_
    refine EvL.seq ?_
    refine EvL.region ?_
    refine Rn.val (St.buildSlice rfl (no_slice ap22)) rfl ?_
    refine Rn.val (St.move rfl) rfl ?_
    have kn := Kept.new hw []
    obtain ⟨v7, h7, e7, kb7, o7⟩ := OPairs.append (M := h.next) (v := .sl h.next 0 0 0 2 true) (xs := []) kn.wf ap22 (Osl.new (Nat.le_refl _) rfl) (p.keep kn.keep) (by simpa using hS) hw.pos kn.next
    refine Rn.val (St.append rfl rfl e7) rfl ?_
    refine Rn.val (St.assign rfl) rfl ?_
    refine Rn.done (.cons 2 _ .nil) ⟨⟨rfl, rfl⟩, trivial⟩ ?_
    refine thenL_normal ?_
    refine EvL.ret ?_
    refine endL_ret rfl ?_
    rw [List.nil_append] at o7
    exact ⟨KeepB.kept hw (kn.keepB.trans kb7), o7⟩

theorem deletePairs_cl (hO : OK O) (hw : WF h) {M : Nat} {v : AV} {S : List Pr} {i j : Nat} (o : OPairs M h v S) (hM : 0 < M) (hMn : M ≤ h.next) (hij : i ≤ j) (hj : j ≤ S.length) (hS : S.length ≤ 1048576) : Cl Try.prog O 0 55 [v, I i, I j] h (fun r h' => KeepB M h h' ∧ OPairs M h' r (S.take i ++ S.drop j)) := by
  refine Cl.intro (N := 33) (K := 65735) (hO _ _ _ (by decide)) Try.func55 rfl rfl (k := 3) rfl rfl rfl (by kernel_rfl) (.cons 0 _ (.cons 1 _ (.cons 2 _ .nil))) ⟨⟨rfl, rfl⟩, ⟨rfl, rfl⟩, ⟨rfl, rfl⟩, trivial⟩ ?_
  refine EvL.seq ?_
  refine EvL.region ?_
  refine Rn.val (St.assign rfl) rfl ?_
  refine Rn.done (.cons 0 _ (.cons 1 _ (.cons 2 _ .nil))) ⟨⟨rfl, rfl⟩, ⟨rfl, rfl⟩, ⟨rfl, rfl⟩, trivial⟩ ?_
  refine thenL_normal ?_
  refine EvL.seq ?_
  refine EvL.region ?_
  refine Rn.val (St.move rfl) rfl ?_
  refine Rn.val (St.move rfl) rfl ?_
  refine Rn.val (St.move rfl) rfl ?_
  refine Rn.val (St.move rfl) rfl ?_
  refine Rn.val (St.len rfl (o.sl.len u22)) rfl ?_
  obtain ⟨y13, e13⟩ := o.sl.slice3 (P := Try.prog) (i := i) (j := j) u22 sz44 hij hj
  refine Rn.val (St.slice rfl rfl rfl rfl e13) rfl ?_
  refine Rn.done (.cons 0 _ (.cons 1 _ (.cons 2 _ .nil))) ⟨⟨rfl, rfl⟩, ⟨rfl, rfl⟩, ⟨rfl, rfl⟩, trivial⟩ ?_
  refine thenL_normal ?_
  refine EvL.seq ?_
  refine EvL.seq ?_
  refine EvL.region ?_
  refine Rn.val (St.move rfl) rfl ?_
  refine Rn.val (St.move rfl) rfl ?_
  refine Rn.val (St.eql rfl rfl) rfl ?_
  refine Rn.done (.cons 0 _ (.cons 1 _ (.cons 2 _ (.cons 16 _ .nil)))) ⟨⟨rfl, rfl⟩, ⟨rfl, rfl⟩, ⟨rfl, rfl⟩, ⟨rfl, rfl⟩, trivial⟩ ?_
  refine thenL_normal ?_
  refine EvL.cond rfl (fun b16 => ?_) (fun b16 => ?_)
  · try simp only [decide_eq_true_eq, decide_eq_false_iff_not, Bool.not_eq_true', Bool.not_eq_false', Bool.not_true, Bool.not_false] at b16
    have hE : i = j := by omega
    subst hE
    refine EvL.seq ?_
    refine EvL.region ?_
    refine Rn.val (St.move rfl) rfl ?_
    refine Rn.val (St.assign rfl) rfl ?_
    refine Rn.done (.cons 6 _ .nil) ⟨⟨rfl, rfl⟩, trivial⟩ ?_
    refine thenL_normal ?_
    refine EvL.ret ?_
    refine thenL_ret ?_
    refine endL_ret rfl ?_
    exact ⟨.refl hw, by rw [List.take_append_drop]; exact o⟩
  · try simp only [decide_eq_true_eq, decide_eq_false_iff_not, Bool.not_eq_true', Bool.not_eq_false', Bool.not_true, Bool.not_false] at b16
    obtain ⟨a22, b25, v26, h26, y31, h31, e22, e25, e26, o26, e31, e32, kb31, o31⟩ := Osl.cut hw ap22 o (flat_pairs S) hij hj hS hM hMn
    refine EvL.skip ?_
    refine thenL_normal ?_
    refine EvL.seq ?_
    refine EvL.region ?_
    refine Rn.val (St.move rfl) rfl ?_
    refine Rn.val (St.len rfl (o.sl.len u22)) rfl ?_
    refine Rn.val (St.assign rfl) rfl ?_
    refine Rn.done (.cons 0 _ (.cons 1 _ (.cons 2 _ (.cons 7 _ .nil)))) ⟨⟨rfl, rfl⟩, ⟨rfl, rfl⟩, ⟨rfl, rfl⟩, ⟨rfl, rfl⟩, trivial⟩ ?_
    refine thenL_normal ?_
    refine EvL.seq ?_
    refine EvL.draw (ord := [0, 1, 2, 3, 4, 5, 6, 7]) (by kernel_rfl) (by kernel_rfl) ?_
    refine Dr.val (St.move rfl) rfl rfl ?_
    refine Dr.val (St.move rfl) rfl rfl ?_
    refine Dr.val (St.slice rfl rfl rfl rfl e22) rfl rfl ?_
    refine Dr.val (St.move rfl) rfl rfl ?_
    refine Dr.val (St.move rfl) rfl rfl ?_
    refine Dr.val (St.slice rfl rfl rfl rfl e25) rfl rfl ?_
    refine Dr.val (St.append rfl rfl e26) rfl rfl ?_
    refine Dr.val (St.assign rfl) rfl rfl ?_
    refine Dr.done (.cons 0 _ (.cons 7 _ .nil)) ⟨⟨rfl, rfl⟩, ⟨rfl, rfl⟩, trivial⟩ (LoadsP.pass rfl rfl (LoadsP.pass rfl rfl (LoadsP.pass rfl rfl (LoadsP.pass rfl rfl (LoadsP.pass rfl rfl (LoadsP.pass rfl rfl (LoadsP.pass rfl rfl (LoadsP.pass rfl rfl (LoadsP.nil))))))))) ?_
    refine thenL_normal ?_
    refine EvL.seq ?_
    refine EvL.region ?_
    refine Rn.val (St.move rfl) rfl ?_
    refine Rn.val (St.move rfl) rfl ?_
    refine Rn.val (St.len rfl (o26.sl.len u22)) rfl ?_
    refine Rn.val (St.move rfl) rfl ?_
    refine Rn.val (St.slice rfl rfl rfl rfl e31) rfl ?_
    refine Rn.val (St.clear rfl e32) rfl ?_
    refine Rn.done (.cons 0 _ .nil) ⟨⟨rfl, rfl⟩, trivial⟩ ?_
    refine thenL_normal ?_
    refine EvL.seq ?_
    refine EvL.region ?_
    refine Rn.val (St.move rfl) rfl ?_
    refine Rn.val (St.assign rfl) rfl ?_
    refine Rn.done (.cons 6 _ .nil) ⟨⟨rfl, rfl⟩, trivial⟩ ?_
    refine thenL_normal ?_
    refine EvL.ret ?_
    refine endL_ret rfl ?_
    rw [cellsP_take, cellsP_drop, ← cellsP_append] at o31
    have hl : (S.take i ++ S.drop j).length = i + (S.length - j) := by simp; omega
    rw [← hl] at o31
    exact ⟨kb31, o31⟩

theorem fewest_cl (hO : OK O) (hw : WF h) {v : AV} {n : Nat} {S : List Find} (p : Pairs h v (prs S)) (hv : Valid n S) : Cl Try.prog O 0 20 [I n, v] h (fun r h' => r = .tup [I (fewF n S : Nat), I 0] ∧ Kept h h') := by
  have hn0 := hv.n0; have hn6 := hv.n6; have hlen := hv.len
  refine Cl.intro (N := 21) (K := 2163) (hO _ _ _ (by decide)) Try.func20 rfl rfl (k := 2) rfl rfl rfl (by kernel_rfl) (.cons 0 _ (.cons 1 _ .nil)) ⟨⟨rfl, rfl⟩, ⟨rfl, rfl⟩, trivial⟩ ?_
  refine EvL.seq ?_
  refine EvL.region ?_
  refine Rn.val (St.assign rfl) rfl ?_
  refine Rn.val (St.assign rfl) rfl ?_
  refine Rn.done (.cons 0 _ (.cons 1 _ .nil)) ⟨⟨rfl, rfl⟩, ⟨rfl, rfl⟩, trivial⟩ ?_
  refine thenL_normal ?_
  refine EvL.seq ?_
  refine EvL.seq ?_
  refine EvL.region ?_
  refine Rn.val (St.move rfl) rfl ?_
  refine Rn.val (St.move rfl) rfl ?_
  refine Rn.call rfl rfl rfl (check_cl hO hw p n (by omega) (by omega) (by rw [prs_length]; omega)) fun v9 h9 c9 => ?_
  obtain ⟨rfl, k9⟩ := c9
  rw [hv.check]
  refine Rn.val (St.assign rfl) rfl ?_
  refine Rn.done (.cons 0 _ (.cons 1 _ (.cons 6 _ .nil))) ⟨⟨rfl, rfl⟩, ⟨rfl, rfl⟩, ⟨rfl, rfl⟩, trivial⟩ ?_
  refine thenL_normal ?_
  refine EvL.seq ?_
  refine EvL.region ?_
  refine Rn.val (St.move rfl) rfl ?_
  refine Rn.val (St.neq rfl rfl) rfl ?_
  refine Rn.done (.cons 0 _ (.cons 1 _ (.cons 6 _ (.cons 11 _ .nil)))) ⟨⟨rfl, rfl⟩, ⟨rfl, rfl⟩, ⟨rfl, rfl⟩, ⟨rfl, rfl⟩, trivial⟩ ?_
  refine thenL_normal ?_
  refine EvL.cond rfl (fun b11 => ?_) (fun b11 => ?_)
  · try simp only [decide_eq_true_eq, decide_eq_false_iff_not, Bool.not_eq_true', Bool.not_eq_false', Bool.not_true, Bool.not_false] at b11
    exact absurd rfl b11
  · try simp only [decide_eq_true_eq, decide_eq_false_iff_not, Bool.not_eq_true', Bool.not_eq_false', Bool.not_true, Bool.not_false] at b11
    refine EvL.skip ?_
    refine thenL_normal ?_
    refine EvL.seq ?_
    refine EvL.region ?_
    refine Rn.val (St.move rfl) rfl ?_
    refine Rn.val (St.move rfl) rfl ?_
    refine Rn.call rfl rfl rfl (filled_cl hO k9.wf (p.keep k9.keep) hn0 hn6 hlen hv.lt any (cl_any hO)) fun v15 h15 c15 => ?_
    obtain ⟨rfl, F⟩ := c15
    refine Rn.val (St.nilCheck rfl rfl) rfl ?_
    refine Rn.val (St.fieldAddr rfl (by rfl)) rfl ?_
    refine Rn.val (St.load rfl F.ldF) rfl ?_
    refine Rn.val (St.indexAddr rfl rfl (F.adF (d := 0) (Nat.two_pow_pos n))) rfl ?_
    refine Rn.val (St.load rfl (F.getF (Nat.two_pow_pos n))) rfl ?_
    refine Rn.val (St.assign rfl) rfl ?_
    refine Rn.val (St.assign rfl) rfl ?_
    refine Rn.done (.cons 4 _ (.cons 5 _ .nil)) ⟨⟨rfl, rfl⟩, ⟨rfl, rfl⟩, trivial⟩ ?_
    refine thenL_normal ?_
    refine EvL.ret ?_
    refine endL_ret rfl ?_
    exact ⟨rfl, k9.trans (F.KB.kept k9.wf)⟩

theorem made_cl (hO : OK O) (hw : WF h) {f k : Nat} {by_ : List (Nat × Nat)} (hb : Bytes f k by_) {most many : Nat} (hm : 2 ≤ most) (hm6 : most ≤ 6) (hmany : many ≤ 12) :
    Cl Try.prog O 0 18 [.agg (layCells f k by_), I most, I many] h (fun r h' => ∃ y, r = .tup [I (madeN f most : Nat), y] ∧ Kept h h' ∧ OPairs h.next h' y (prs (madeS f k by_ most many))) := by
  have hbf := hb.f; have hbk := hb.k; have hbl := hb.len
  have k3 := Kept.new hw (layCells f k by_)
  have x3 : OBx h.next (h.new (layCells f k by_)) h.next (layCells f k by_) := OBx.new (Nat.le_refl _) _
  have hcl : (layCells f k by_).length = 26 := by simp [layCells, u8P_length, hbl]
  have hnle := madeN_le (f := f) hm
  obtain ⟨c, hc⟩ : ∃ c, c = k % (many + 1) := ⟨_, rfl⟩
  have hc12 : c ≤ 12 := by have := Nat.mod_lt k (show many + 1 > 0 by omega); omega
  obtain ⟨y27, e27, s27⟩ := arr_slice (P := Try.prog) (off := 0 + 2) (j := c) x3 u37 sz36 (by rw [hcl]; omega) hc12
  have es27 : ((layCells f k by_).drop (0 + 2)).take (c * 2) = u8P (by_.take c) := by
    show ((u8P by_)).take (c * 2) = _
    exact u8P_take _ _
  rw [es27] at s27
  have e18 : ((f : Int) % ((most : Int) - 1)) = ((f % (most - 1) : Nat) : Int) := by rw [show (most : Int) - 1 = ((most - 1 : Nat) : Int) by omega]; rfl
  have e19 : (2 : Int) + ((f % (most - 1) : Nat) : Int) = (madeN f most : Nat) := by unfold madeN; omega
  have e26 : ((k : Int) % ((many : Int) + 1)) = ((c : Nat) : Int) := by rw [hc]; rfl
  have e46 : ((madeN f most : Nat) : Int) - 1 = ((madeN f most - 1 : Nat) : Int) := by omega
  have w1 := k3.wf
  have KB := KeepB.refl (M := (h.new (layCells f k by_)).next) w1
  refine Cl.intro (N := 57) (K := 2013273039) (hO _ _ _ (by decide)) Try.func18 rfl rfl (k := 3) rfl rfl rfl (by kernel_rfl) (.cons 0 _ (.cons 1 _ (.cons 2 _ .nil))) ⟨⟨rfl, rfl⟩, ⟨rfl, rfl⟩, ⟨rfl, rfl⟩, trivial⟩ ?_
  refine EvL.seq ?_
  refine EvL.region ?_
  refine Rn.val (St.box rfl) rfl ?_
  refine Rn.val (St.assign rfl) rfl ?_
  refine Rn.val (St.assign rfl) rfl ?_
  refine Rn.done (.cons 1 _ (.cons 2 _ (.cons 3 _ .nil))) ⟨⟨rfl, rfl⟩, ⟨rfl, rfl⟩, ⟨rfl, rfl⟩, trivial⟩ ?_
  refine thenL_normal ?_
  refine EvL.seq ?_
  refine EvL.region ?_
  refine Rn.val (St.fieldAddr rfl (by rfl)) rfl ?_
  refine Rn.val (St.load rfl (x3.load1 sh5 rfl)) rfl ?_
  refine Rn.val (St.convert rfl (conv_u8 hbf)) rfl ?_
  refine Rn.val (St.move rfl) rfl ?_
  refine Rn.val (St.sub rfl rfl (by omega) (by omega)) rfl ?_
  refine Rn.val (St.rem rfl rfl (by omega) (by omega)) rfl ?_
  rw [e18]
  refine Rn.val (St.add rfl rfl (by unfold madeN at hnle; omega) (by unfold madeN at hnle; omega)) rfl ?_
  rw [e19]
  refine Rn.val (St.assign rfl) rfl ?_
  refine Rn.done (.cons 2 _ (.cons 3 _ (.cons 8 _ .nil))) ⟨⟨rfl, rfl⟩, ⟨rfl, rfl⟩, ⟨rfl, rfl⟩, trivial⟩ ?_
  refine thenL_normal ?_
  refine EvL.seq ?_
  refine EvL.region ?_
  refine Rn.val (St.assign rfl) rfl ?_
  refine Rn.done (.cons 2 _ (.cons 3 _ (.cons 8 _ (.cons 9 _ .nil)))) ⟨⟨rfl, rfl⟩, ⟨rfl, rfl⟩, ⟨rfl, rfl⟩, ⟨rfl, rfl⟩, trivial⟩ ?_
  refine thenL_normal ?_
  refine EvL.seq ?_
  refine EvL.seq ?_
  refine EvL.region ?_
  refine Rn.val (St.fieldAddr rfl (by rfl)) rfl ?_
  refine Rn.val (St.fieldAddr rfl (by rfl)) rfl ?_
  refine Rn.val (St.load rfl (x3.load1 sh5 rfl)) rfl ?_
  refine Rn.val (St.convert rfl (conv_u8 hbk)) rfl ?_
  refine Rn.val (St.move rfl) rfl ?_
  refine Rn.val (St.add rfl rfl (by omega) (by omega)) rfl ?_
  refine Rn.val (St.rem rfl rfl (by omega) (by omega)) rfl ?_
  rw [e26]
  refine Rn.val (St.slice rfl rfl rfl rfl e27) rfl ?_
  refine Rn.val (St.len rfl (s27.len u76)) rfl ?_
  refine Rn.val (St.move rfl) rfl ?_
  refine Rn.done (.cons 8 _ (.cons 9 _ (.cons 27 _ (.cons 28 _ (.cons 29 _ .nil))))) ⟨⟨rfl, rfl⟩, ⟨rfl, rfl⟩, ⟨rfl, rfl⟩, ⟨rfl, rfl⟩, ⟨rfl, rfl⟩, trivial⟩ ?_
  refine thenL_normal ?_
  refine EvL.block ?_
  refine EvL.loop (fun m L h' => ∃ (i : Nat) (v9 : AV), i ≤ c ∧ m = c - i ∧ L = (.cons 8 (I (madeN f most : Nat)) (.cons 9 v9 (.cons 27 y27 (.cons 28 (I c) (.cons 29 (I i) .nil))))) ∧ KeepB (h.new (layCells f k by_)).next (h.new (layCells f k by_)) h' ∧ OPairs (h.new (layCells f k by_)).next h' v9 (prs ((madeS f k by_ most many).take i))) (m := c) ?_ ?_
  · exact ⟨0, .nils, Nat.zero_le _, rfl, rfl, KB, Osl.nil _ _ _⟩
  rintro m L hL0 ⟨i, v9, hi, rfl, rfl, KB, o⟩
  refine EvL.seq ?_
  refine EvL.region ?_
  refine Rn.val (St.lss rfl rfl) rfl ?_
  refine Rn.done (.cons 8 _ (.cons 9 _ (.cons 27 _ (.cons 28 _ (.cons 29 _ (.cons 30 _ .nil)))))) ⟨⟨rfl, rfl⟩, ⟨rfl, rfl⟩, ⟨rfl, rfl⟩, ⟨rfl, rfl⟩, ⟨rfl, rfl⟩, ⟨rfl, rfl⟩, trivial⟩ ?_
  refine thenL_normal ?_
  refine EvL.seq ?_
  refine EvL.cond rfl (fun b30 => ?_) (fun b30 => ?_)
  · try simp only [decide_eq_true_eq, decide_eq_false_iff_not, Bool.not_eq_true', Bool.not_eq_false', Bool.not_true, Bool.not_false] at b30
    have hlt : i < c := by omega
    have hib : i < by_.length := by omega
    have hlx := hb.lt _ (List.getElem_mem hib)
    have hiS : i < (madeS f k by_ most many).length := by unfold madeS; simp; omega
    have hSi : (madeS f k by_ most many)[i] = madeF (madeN f most) by_[i] := by simp [madeS]
    have hp : ((u8P (by_.take c)).drop (i * 2)).take 2 = [.int .u8 (by_[i].1 : Int), .int .u8 (by_[i].2 : Int)] := by
      have := u8P_part (by_.take c) i (by simp; omega)
      simpa using this
    have hm1 : by_[i].1 % madeN f most < madeN f most := Nat.mod_lt _ (by omega)
    have hm2 : by_[i].2 % (madeN f most - 1) < madeN f most - 1 := Nat.mod_lt _ (by omega)
    refine EvL.skip ?_
    refine thenL_normal ?_
    refine EvL.seq ?_
    refine EvL.block ?_
    refine EvL.seq ?_
    refine EvL.region ?_
    refine Rn.val (St.indexAddr rfl rfl (s27.addr u76 sz36 hlt)) rfl ?_
    refine Rn.val (St.load rfl (by rw [Sl.cells (s27.kb w1 KB) sh36 hlt, hp])) rfl ?_
    obtain ⟨h11, e11, k11, x11, n11⟩ := alloc_store (P := Try.prog) (t := 36) (zs := zs36) (vs := [.int .u8 (by_[i].1 : Int), .int .u8 (by_[i].2 : Int)]) (a := .agg [.int .u8 (by_[i].1 : Int), .int .u8 (by_[i].2 : Int)]) (KB).wf sz36 rfl rfl rfl rfl
    refine Rn.val (St.alloc (allocA_of zero36 rfl)) rfl ?_
    refine Rn.val (St.store rfl rfl e11) rfl ?_
    have KB := KB.trans k11.keepB
    have o := o.keep k11.keep
    refine Rn.done (.cons 8 _ (.cons 9 _ (.cons 11 _ (.cons 27 _ (.cons 28 _ (.cons 29 _ .nil)))))) ⟨⟨rfl, rfl⟩, ⟨rfl, rfl⟩, ⟨rfl, rfl⟩, ⟨rfl, rfl⟩, ⟨rfl, rfl⟩, ⟨rfl, rfl⟩, trivial⟩ ?_
    refine thenL_normal ?_
    refine EvL.seq ?_
    refine EvL.region ?_
    refine Rn.val (St.indexAddr rfl rfl (arr_addr 0 u36 sz5 (by omega))) rfl ?_
    refine Rn.val (St.load rfl (x11.load1 sh5 rfl)) rfl ?_
    refine Rn.val (St.convert rfl (conv_u8 hlx.1)) rfl ?_
    refine Rn.val (St.move rfl) rfl ?_
    refine Rn.val (St.rem rfl rfl (by omega) (by omega)) rfl ?_
    rw [show ((by_[i].1 : Int) % ((madeN f most : Nat) : Int)) = ((by_[i].1 % madeN f most : Nat) : Int) from rfl]
    refine Rn.val (St.assign rfl) rfl ?_
    refine Rn.done (.cons 8 _ (.cons 9 _ (.cons 11 _ (.cons 12 _ (.cons 27 _ (.cons 28 _ (.cons 29 _ .nil))))))) ⟨⟨rfl, rfl⟩, ⟨rfl, rfl⟩, ⟨rfl, rfl⟩, ⟨rfl, rfl⟩, ⟨rfl, rfl⟩, ⟨rfl, rfl⟩, ⟨rfl, rfl⟩, trivial⟩ ?_
    refine thenL_normal ?_
    refine EvL.region ?_
    refine Rn.val (St.move rfl) rfl ?_
    refine Rn.val (St.move rfl) rfl ?_
    refine Rn.val (St.move rfl) rfl ?_
    refine Rn.val (St.add rfl rfl (by omega) (by omega)) rfl ?_
    refine Rn.val (St.indexAddr rfl rfl (arr_addr 1 u36 sz5 (by omega))) rfl ?_
    refine Rn.val (St.load rfl (x11.load1 sh5 rfl)) rfl ?_
    refine Rn.val (St.convert rfl (conv_u8 hlx.2)) rfl ?_
    refine Rn.val (St.move rfl) rfl ?_
    refine Rn.val (St.sub rfl rfl (by omega) (by omega)) rfl ?_
    rw [e46]
    refine Rn.val (St.rem rfl rfl (by omega) (by omega)) rfl ?_
    rw [show ((by_[i].2 : Int) % ((madeN f most - 1 : Nat) : Int)) = ((by_[i].2 % (madeN f most - 1) : Nat) : Int) from rfl]
    refine Rn.val (St.add rfl rfl (by omega) (by omega)) rfl ?_
    refine Rn.val (St.move rfl) rfl ?_
    refine Rn.val (St.rem rfl rfl (by omega) (by omega)) rfl ?_
    refine Rn.val (St.build rfl (build44 _ _)) rfl ?_
    refine Rn.val (St.buildSlice rfl (one_slice ap22 rfl rfl (by decide))) rfl ?_
    obtain ⟨v53, h53, e53, kb53, o53⟩ := OPairs.push (P := Try.prog) (t := 22) (x := ((madeF (madeN f most) by_[i]).1 : Int)) (y := ((madeF (madeN f most) by_[i]).2 : Int)) KB.wf ap22 o (by rw [prs_length]; simp; omega) w1.pos KB.next
    refine Rn.val (St.append rfl rfl e53) rfl ?_
    have KB := KB.trans kb53
    rw [show (((madeF (madeN f most) by_[i]).1 : Int), ((madeF (madeN f most) by_[i]).2 : Int)) = toPr (madeS f k by_ most many)[i] by rw [hSi], prs_take_succ hiS] at o53
    refine Rn.val (St.assign rfl) rfl ?_
    refine Rn.done (.cons 8 _ (.cons 9 _ (.cons 27 _ (.cons 28 _ (.cons 29 _ .nil))))) ⟨⟨rfl, rfl⟩, ⟨rfl, rfl⟩, ⟨rfl, rfl⟩, ⟨rfl, rfl⟩, ⟨rfl, rfl⟩, trivial⟩ ?_
    refine blockL_normal ?_
    refine thenL_normal ?_
    refine EvL.region ?_
    refine Rn.val (St.add rfl rfl (by omega) (by omega)) rfl ?_
    refine Rn.val (St.move rfl) rfl ?_
    refine Rn.done (.cons 8 _ (.cons 9 _ (.cons 27 _ (.cons 28 _ (.cons 29 _ .nil))))) ⟨⟨rfl, rfl⟩, ⟨rfl, rfl⟩, ⟨rfl, rfl⟩, ⟨rfl, rfl⟩, ⟨rfl, rfl⟩, trivial⟩ ?_
    exact ⟨c - (i + 1), by omega, i + 1, v53, by omega, rfl, rfl, KB, o53⟩
  · try simp only [decide_eq_true_eq, decide_eq_false_iff_not, Bool.not_eq_true', Bool.not_eq_false', Bool.not_true, Bool.not_false] at b30
    have he : i = c := by omega
    subst he
    have hall : (madeS f k by_ most many).take i = madeS f k by_ most many := List.take_of_length_le (by unfold madeS; rw [← hc]; simp; omega)
    rw [hall] at o
    refine EvL.exit ?_
    refine thenL_exit ?_
    refine thenL_exit ?_
    refine blockL_exit ?_
    refine thenL_normal ?_
    refine EvL.seq ?_
    refine EvL.region ?_
    refine Rn.val (St.move rfl) rfl ?_
    refine Rn.val (St.move rfl) rfl ?_
    refine Rn.val (St.assign rfl) rfl ?_
    refine Rn.val (St.assign rfl) rfl ?_
    refine Rn.done (.cons 6 _ (.cons 7 _ .nil)) ⟨⟨rfl, rfl⟩, ⟨rfl, rfl⟩, trivial⟩ ?_
    refine thenL_normal ?_
    refine EvL.ret ?_
    refine endL_ret rfl ?_
    exact ⟨_, rfl, k3.trans (KB.kept w1), o.down (Nat.le_succ _)⟩

theorem strike_cl (hO : OK O) (hw : WF h) {v : AV} {n : Nat} {S : List Find} (p : Pairs h v (prs S)) (hv : Valid n S) : Cl Try.prog O 0 25 [I n, v] h (fun r h' => ∃ y, r = .tup [y, I 0] ∧ Kept h h' ∧ Ints h' y (nums (strikeIx n [] S 0))) := by
  have hn0 := hv.n0; have hn6 := hv.n6; have hlen := hv.len
  have hlenS := prs_length S
  refine Cl.intro (N := 61) (K := 9007199284240371) (hO _ _ _ (by decide)) Try.func25 rfl rfl (k := 2) rfl rfl rfl (by kernel_rfl) (.cons 0 _ (.cons 1 _ .nil)) ⟨⟨rfl, rfl⟩, ⟨rfl, rfl⟩, trivial⟩ ?_
  refine EvL.seq ?_
  refine EvL.region ?_
  refine Rn.val (St.assign rfl) rfl ?_
  refine Rn.val (St.assign rfl) rfl ?_
  refine Rn.done (.cons 0 _ (.cons 1 _ .nil)) ⟨⟨rfl, rfl⟩, ⟨rfl, rfl⟩, trivial⟩ ?_
  refine thenL_normal ?_
  refine EvL.seq ?_
  refine EvL.seq ?_
  refine EvL.region ?_
  refine Rn.val (St.move rfl) rfl ?_
  refine Rn.val (St.move rfl) rfl ?_
  refine Rn.call rfl rfl rfl (check_cl hO hw p n (by omega) (by omega) (by rw [prs_length]; omega)) fun v15 h15 c15 => ?_
  obtain ⟨rfl, k15⟩ := c15
  rw [hv.check]
  refine Rn.val (St.assign rfl) rfl ?_
  refine Rn.done (.cons 0 _ (.cons 1 _ (.cons 6 _ .nil))) ⟨⟨rfl, rfl⟩, ⟨rfl, rfl⟩, ⟨rfl, rfl⟩, trivial⟩ ?_
  refine thenL_normal ?_
  refine EvL.seq ?_
  refine EvL.region ?_
  refine Rn.val (St.move rfl) rfl ?_
  refine Rn.val (St.neq rfl rfl) rfl ?_
  refine Rn.done (.cons 0 _ (.cons 1 _ (.cons 6 _ (.cons 17 _ .nil)))) ⟨⟨rfl, rfl⟩, ⟨rfl, rfl⟩, ⟨rfl, rfl⟩, ⟨rfl, rfl⟩, trivial⟩ ?_
  refine thenL_normal ?_
  refine EvL.cond rfl (fun b17 => ?_) (fun b17 => ?_)
  · try simp only [decide_eq_true_eq, decide_eq_false_iff_not, Bool.not_eq_true', Bool.not_eq_false', Bool.not_true, Bool.not_false] at b17
    exact absurd rfl b17
  · try simp only [decide_eq_true_eq, decide_eq_false_iff_not, Bool.not_eq_true', Bool.not_eq_false', Bool.not_true, Bool.not_false] at b17
    refine EvL.skip ?_
    refine thenL_normal ?_
    refine EvL.seq ?_
    refine EvL.region ?_
    refine Rn.val (St.assign rfl) rfl ?_
    refine Rn.done (.cons 0 _ (.cons 1 _ (.cons 7 _ .nil))) ⟨⟨rfl, rfl⟩, ⟨rfl, rfl⟩, ⟨rfl, rfl⟩, trivial⟩ ?_
    refine thenL_normal ?_
    refine EvL.seq ?_
    refine EvL.region ?_
    refine Rn.val (St.move rfl) rfl ?_
    refine Rn.call rfl rfl rfl (clonePairs_cl hO k15.wf (p.keep k15.keep) (by omega)) fun v20 h20 c20 => ?_
    obtain ⟨k20, o20⟩ := c20
    have KB : KeepB h.next h h20 := (k15.trans k20).keepB
    refine Rn.val (St.assign rfl) rfl ?_
    refine Rn.done (.cons 0 _ (.cons 1 _ (.cons 7 _ (.cons 8 _ .nil)))) ⟨⟨rfl, rfl⟩, ⟨rfl, rfl⟩, ⟨rfl, rfl⟩, ⟨rfl, rfl⟩, trivial⟩ ?_
    refine thenL_normal ?_
    refine EvL.seq ?_
    refine EvL.seq ?_
    refine EvL.region ?_
    refine Rn.val (St.move rfl) rfl ?_
    refine Rn.val (St.len rfl (p.len u22)) rfl ?_
    refine Rn.val (St.move rfl) rfl ?_
    refine Rn.done (.cons 0 _ (.cons 7 _ (.cons 8 _ (.cons 22 _ (.cons 23 _ .nil))))) ⟨⟨rfl, rfl⟩, ⟨rfl, rfl⟩, ⟨rfl, rfl⟩, ⟨rfl, rfl⟩, ⟨rfl, rfl⟩, trivial⟩ ?_
    refine thenL_normal ?_
    refine EvL.block ?_
    refine EvL.loop (fun m L h' => ∃ (i : Nat) (vo vl : AV) (kept : List Find) (ys : List Nat), i ≤ S.length ∧ m = S.length - i ∧ L = (.cons 0 (I n) (.cons 7 vo (.cons 8 vl (.cons 22 (I ((prs S).length : Nat)) (.cons 23 (I i) .nil))))) ∧ KeepB h.next h h' ∧ OInts h.next h' vo (nums ys) ∧ OPairs h.next h' vl (prs (kept ++ S.drop i)) ∧ ys ++ strikeIx n kept (S.drop i) i = strikeIx n [] S 0 ∧ kept.length + ys.length = i ∧ ∀ x ∈ kept, x ∈ S) (m := S.length) ?_ ?_
    · exact ⟨0, .nils, v20, [], [], Nat.zero_le _, rfl, rfl, KB, Osl.nil _ _ _, o20.down k15.next, by simp, rfl, by simp⟩
    rintro m L hL0 ⟨i, vo, vl, kept, ys, hi, rfl, rfl, KB, oo, ol, hys, hk, hks⟩
    refine EvL.seq ?_
    refine EvL.region ?_
    refine Rn.val (St.lss rfl rfl) rfl ?_
    refine Rn.done (.cons 0 _ (.cons 7 _ (.cons 8 _ (.cons 22 _ (.cons 23 _ (.cons 24 _ .nil)))))) ⟨⟨rfl, rfl⟩, ⟨rfl, rfl⟩, ⟨rfl, rfl⟩, ⟨rfl, rfl⟩, ⟨rfl, rfl⟩, ⟨rfl, rfl⟩, trivial⟩ ?_
    refine thenL_normal ?_
    refine EvL.seq ?_
    refine EvL.cond rfl (fun b24 => ?_) (fun b24 => ?_)
    · try simp only [decide_eq_true_eq, decide_eq_false_iff_not, Bool.not_eq_true', Bool.not_eq_false', Bool.not_true, Bool.not_false] at b24
      have hlt : i < S.length := by omega
      have hd : S.drop i = S[i] :: S.drop (i + 1) := List.drop_eq_getElem_cons hlt
      have hvL : Valid n (kept ++ S.drop i) := hv.sub (by simp; omega) fun x hx => by
        rcases List.mem_append.1 hx with hx | hx
        · exact hks x hx
        · exact List.mem_of_mem_drop hx
      have hvR : Valid n (kept ++ S.drop (i + 1)) := hv.sub (by simp; omega) fun x hx => by
        rcases List.mem_append.1 hx with hx | hx
        · exact hks x hx
        · exact List.mem_of_mem_drop hx
      refine EvL.skip ?_
      refine thenL_normal ?_
      refine EvL.seq ?_
      refine EvL.block ?_
      refine EvL.seq ?_
      refine EvL.region ?_
      refine Rn.val (St.move rfl) rfl ?_
      refine Rn.val (St.assign rfl) rfl ?_
      refine Rn.done (.cons 0 _ (.cons 7 _ (.cons 8 _ (.cons 9 _ (.cons 22 _ (.cons 23 _ .nil)))))) ⟨⟨rfl, rfl⟩, ⟨rfl, rfl⟩, ⟨rfl, rfl⟩, ⟨rfl, rfl⟩, ⟨rfl, rfl⟩, ⟨rfl, rfl⟩, trivial⟩ ?_
      refine thenL_normal ?_
      refine EvL.seq ?_
      refine EvL.region ?_
      refine Rn.val (St.move rfl) rfl ?_
      refine Rn.val (St.move rfl) rfl ?_
      refine Rn.call rfl rfl rfl (filled_cl hO KB.wf ol.pairs hn0 hn6 hvL.len hvL.lt any (cl_any hO)) fun v28 h28 c28 => ?_
      obtain ⟨rfl, F28⟩ := c28
      have k28 := F28.KB.kept KB.wf
      have KB := KB.trans k28.keepB
      have oo := oo.keep k28.keep
      have ol := ol.keep k28.keep
      refine Rn.val (St.nilCheck rfl rfl) rfl ?_
      refine Rn.val (St.fieldAddr rfl (by rfl)) rfl ?_
      refine Rn.val (St.load rfl F28.ldF) rfl ?_
      refine Rn.val (St.indexAddr rfl rfl (F28.adF (d := 0) (Nat.two_pow_pos n))) rfl ?_
      refine Rn.val (St.load rfl (F28.getF (Nat.two_pow_pos n))) rfl ?_
      refine Rn.val (St.assign rfl) rfl ?_
      refine Rn.done (.cons 0 _ (.cons 7 _ (.cons 8 _ (.cons 9 _ (.cons 10 _ (.cons 22 _ (.cons 23 _ .nil))))))) ⟨⟨rfl, rfl⟩, ⟨rfl, rfl⟩, ⟨rfl, rfl⟩, ⟨rfl, rfl⟩, ⟨rfl, rfl⟩, ⟨rfl, rfl⟩, ⟨rfl, rfl⟩, trivial⟩ ?_
      refine thenL_normal ?_
      refine EvL.seq ?_
      refine EvL.region ?_
      refine Rn.val (St.move rfl) rfl ?_
      refine Rn.val (St.move rfl) rfl ?_
      refine Rn.val (St.len rfl (oo.ints.len u23)) rfl ?_
      refine Rn.val (St.sub rfl rfl (by simp; omega) (by simp; omega)) rfl ?_
      have e37 : (i : Int) - ((nums ys).length : Nat) = (kept.length : Int) := by simp; omega
      rw [e37]
      refine Rn.val (St.assign rfl) rfl ?_
      refine Rn.done (.cons 0 _ (.cons 7 _ (.cons 8 _ (.cons 9 _ (.cons 10 _ (.cons 11 _ (.cons 22 _ (.cons 23 _ .nil)))))))) ⟨⟨rfl, rfl⟩, ⟨rfl, rfl⟩, ⟨rfl, rfl⟩, ⟨rfl, rfl⟩, ⟨rfl, rfl⟩, ⟨rfl, rfl⟩, ⟨rfl, rfl⟩, ⟨rfl, rfl⟩, trivial⟩ ?_
      refine thenL_normal ?_
      refine EvL.seq ?_
      refine EvL.region ?_
      refine Rn.val (St.move rfl) rfl ?_
      have wX := KB.wf
      have fo := FamLt.of wX vo
      have hNX := KB.next
      refine Rn.call rfl rfl rfl (clonePairs_cl hO wX ol.pairs (by rw [prs_length]; have := hvL.len; omega)) fun v39 h39 c39 => ?_
      obtain ⟨k39, o39⟩ := c39
      refine Rn.val (St.move rfl) rfl ?_
      refine Rn.val (St.move rfl) rfl ?_
      refine Rn.val (St.add rfl rfl (by omega) (by omega)) rfl ?_
      refine Rn.call rfl rfl rfl (deletePairs_cl hO k39.wf (i := kept.length) (j := kept.length + 1) o39 wX.pos k39.next (by omega) (by rw [prs_length]; simp; omega) (by rw [prs_length]; have := hvL.len; omega)) fun v43 h43 c43 => ?_
      obtain ⟨kb43, o43⟩ := c43
      have ecut : (prs (kept ++ S.drop i)).take kept.length ++ (prs (kept ++ S.drop i)).drop (kept.length + 1) = prs (kept ++ S.drop (i + 1)) := by
        rw [hd]
        unfold prs
        rw [← List.map_take, ← List.map_drop, ← List.map_append]
        congr 1
        rw [List.take_left, List.drop_append, List.drop_of_length_le (by omega), show kept.length + 1 - kept.length = 1 by omega]
        rfl
      rw [ecut] at o43
      have KX := k39.keepB.trans kb43
      refine Rn.val (St.assign rfl) rfl ?_
      refine Rn.done (.cons 0 _ (.cons 7 _ (.cons 8 _ (.cons 9 _ (.cons 10 _ (.cons 12 _ (.cons 22 _ (.cons 23 _ .nil)))))))) ⟨⟨rfl, rfl⟩, ⟨rfl, rfl⟩, ⟨rfl, rfl⟩, ⟨rfl, rfl⟩, ⟨rfl, rfl⟩, ⟨rfl, rfl⟩, ⟨rfl, rfl⟩, ⟨rfl, rfl⟩, trivial⟩ ?_
      refine thenL_normal ?_
      refine EvL.seq ?_
      refine EvL.region ?_
      refine Rn.val (St.move rfl) rfl ?_
      refine Rn.val (St.move rfl) rfl ?_
      refine Rn.call rfl rfl rfl (filled_cl hO kb43.wf o43.pairs hn0 hn6 hvR.len hvR.lt any (cl_any hO)) fun v46 h46 c46 => ?_
      obtain ⟨rfl, F46⟩ := c46
      have k46 := F46.KB.kept kb43.wf
      have kX := (KX.trans k46.keepB).kept wX
      have KB := KB.trans kX.keepB
      have fo := fo.keep oo kX.keep
      have oo := oo.keep kX.keep
      have ol := ol.keep kX.keep
      have o43 := o43.keep k46.keep
      refine Rn.val (St.nilCheck rfl rfl) rfl ?_
      refine Rn.val (St.fieldAddr rfl (by rfl)) rfl ?_
      refine Rn.val (St.load rfl F46.ldF) rfl ?_
      refine Rn.val (St.indexAddr rfl rfl (F46.adF (d := 0) (Nat.two_pow_pos n))) rfl ?_
      refine Rn.val (St.load rfl (F46.getF (Nat.two_pow_pos n))) rfl ?_
      refine Rn.val (St.move rfl) rfl ?_
      refine Rn.val (St.lss rfl rfl) rfl ?_
      refine Rn.done (.cons 0 _ (.cons 7 _ (.cons 8 _ (.cons 9 _ (.cons 12 _ (.cons 22 _ (.cons 23 _ (.cons 53 _ .nil)))))))) ⟨⟨rfl, rfl⟩, ⟨rfl, rfl⟩, ⟨rfl, rfl⟩, ⟨rfl, rfl⟩, ⟨rfl, rfl⟩, ⟨rfl, rfl⟩, ⟨rfl, rfl⟩, ⟨rfl, rfl⟩, trivial⟩ ?_
      refine thenL_normal ?_
      refine EvL.cond rfl (fun b53 => ?_) (fun b53 => ?_)
      · try simp only [decide_eq_true_eq, decide_eq_false_iff_not, Bool.not_eq_true', Bool.not_eq_false', Bool.not_true, Bool.not_false] at b53
        have hlss : fewF n (kept ++ S.drop (i + 1)) < fewF n (kept ++ S.drop i) := Int.ofNat_lt.1 b53
        have hys2 : ys ++ [i] ++ strikeIx n kept (S.drop (i + 1)) (i + 1) = strikeIx n [] S 0 := by
          rw [hd] at hys hlss
          rw [strikeIx, if_pos hlss] at hys
          simpa using hys
        refine EvL.region ?_
        refine Rn.val (St.move rfl) rfl ?_
        refine Rn.val (St.move rfl) rfl ?_
        refine Rn.val (St.buildSlice rfl (one_slice ap23 rfl rfl (by decide))) rfl ?_
        obtain ⟨v57, h57, e57, kb57, o57, fr57⟩ := OInts.push2 (P := Try.prog) (t := 23) (x := (i : Int)) KB.wf ap23 oo (by simp; omega) hw.pos KB.next
        refine Rn.val (St.append rfl rfl e57) rfl ?_
        have KB := KB.trans kb57
        have o43 := (Osl.other fr57 fo o43).down hNX
        have o57 : OInts h.next h57 v57 (nums (ys ++ [i])) := by rw [show nums (ys ++ [i]) = nums ys ++ [(i : Int)] by simp [nums]]; exact o57
        refine Rn.val (St.move rfl) rfl ?_
        refine Rn.val (St.assign rfl) rfl ?_
        refine Rn.val (St.assign rfl) rfl ?_
        refine Rn.done (.cons 0 _ (.cons 7 _ (.cons 8 _ (.cons 22 _ (.cons 23 _ .nil))))) ⟨⟨rfl, rfl⟩, ⟨rfl, rfl⟩, ⟨rfl, rfl⟩, ⟨rfl, rfl⟩, ⟨rfl, rfl⟩, trivial⟩ ?_
        refine blockL_normal ?_
        refine thenL_normal ?_
        refine EvL.region ?_
        refine Rn.val (St.add rfl rfl (by omega) (by omega)) rfl ?_
        refine Rn.val (St.move rfl) rfl ?_
        refine Rn.done (.cons 0 _ (.cons 7 _ (.cons 8 _ (.cons 22 _ (.cons 23 _ .nil))))) ⟨⟨rfl, rfl⟩, ⟨rfl, rfl⟩, ⟨rfl, rfl⟩, ⟨rfl, rfl⟩, ⟨rfl, rfl⟩, trivial⟩ ?_
        first
          | exact ⟨S.length - (i + 1), by omega, i + 1, v57, v43, kept, ys ++ [i], by omega, rfl, rfl, KB, o57, o43, hys2, by simp; omega, hks⟩
          | exact ⟨S.length - (i + 1), by omega, i + 1, vo, vl, kept ++ [S[i]], ys, by omega, rfl, rfl, KB, oo, ol2, hys2, by simp; omega, hks2⟩
      · try simp only [decide_eq_true_eq, decide_eq_false_iff_not, Bool.not_eq_true', Bool.not_eq_false', Bool.not_true, Bool.not_false] at b53
        have hge : ¬ fewF n (kept ++ S.drop (i + 1)) < fewF n (kept ++ S.drop i) := fun hh => b53 (Int.ofNat_lt.2 hh)
        have hys2 : ys ++ strikeIx n (kept ++ [S[i]]) (S.drop (i + 1)) (i + 1) = strikeIx n [] S 0 := by
          rw [hd] at hys hge
          rw [strikeIx, if_neg hge] at hys
          exact hys
        have hks2 : ∀ x ∈ kept ++ [S[i]], x ∈ S := fun x hx => by
          rcases List.mem_append.1 hx with hx | hx
          · exact hks x hx
          · have : x = S[i] := by simpa using hx
            rw [this]; exact List.getElem_mem hlt
        have ol2 := ol
        rw [hd, show kept ++ S[i] :: S.drop (i + 1) = kept ++ [S[i]] ++ S.drop (i + 1) by simp] at ol2
        refine EvL.skip ?_
        refine blockL_normal ?_
        refine thenL_normal ?_
        refine EvL.region ?_
        refine Rn.val (St.add rfl rfl (by omega) (by omega)) rfl ?_
        refine Rn.val (St.move rfl) rfl ?_
        refine Rn.done (.cons 0 _ (.cons 7 _ (.cons 8 _ (.cons 22 _ (.cons 23 _ .nil))))) ⟨⟨rfl, rfl⟩, ⟨rfl, rfl⟩, ⟨rfl, rfl⟩, ⟨rfl, rfl⟩, ⟨rfl, rfl⟩, trivial⟩ ?_
        first
          | exact ⟨S.length - (i + 1), by omega, i + 1, v57, v43, kept, ys ++ [i], by omega, rfl, rfl, KB, o57, o43, hys2, by simp; omega, hks⟩
          | exact ⟨S.length - (i + 1), by omega, i + 1, vo, vl, kept ++ [S[i]], ys, by omega, rfl, rfl, KB, oo, ol2, hys2, by simp; omega, hks2⟩
    · try simp only [decide_eq_true_eq, decide_eq_false_iff_not, Bool.not_eq_true', Bool.not_eq_false', Bool.not_true, Bool.not_false] at b24
      have he : i = S.length := by omega
      subst he
      refine EvL.exit ?_
      refine thenL_exit ?_
      refine thenL_exit ?_
      refine blockL_exit ?_
      refine thenL_normal ?_
      refine EvL.seq ?_
      refine EvL.region ?_
      refine Rn.val (St.move rfl) rfl ?_
      refine Rn.val (St.assign rfl) rfl ?_
      refine Rn.val (St.assign rfl) rfl ?_
      refine Rn.done (.cons 4 _ (.cons 5 _ .nil)) ⟨⟨rfl, rfl⟩, ⟨rfl, rfl⟩, trivial⟩ ?_
      refine thenL_normal ?_
      refine EvL.ret ?_
      refine endL_ret rfl ?_
      exact ⟨_, rfl, KB.kept hw, by rw [← hys]; simpa [strikeIx] using oo.ints⟩

end
end
end Go.Proofs.Ytkhnkkbpibpaaaa.Rg
