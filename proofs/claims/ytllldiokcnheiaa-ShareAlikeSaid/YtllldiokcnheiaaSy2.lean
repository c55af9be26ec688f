/- Symbolic runs: integers, lists behind slices, regions that draw their order, parts of slices, and arguments that are made of bytes. No conditions beyond those named. -/
import Derived.Test.YtllldiokcnheiaaSy1
import Derived.WalkKit
import Derived.ProofKit
import Derived.OpenShut

namespace Go.Proofs.Ytllldiokcnheiaa.Ab
noncomputable section
section
variable {P : Program} {O : CallF} {G N K : Nat} {h h1 h' : AH} {M : Nat} {L : LF} {x y : Operand} {t u : TypeId} {a b : Int}

/-- An integer of the kind that is used most. -/
abbrev I (n : Int) : AV := .int .i64 n

theorem wrapF_self (h1 : -9223372036854775808 ≤ a) (h2 : a ≤ 9223372036854775807) : wrapF .i64 a = a := wrapF_i64 h1 h2

namespace St
theorem add (hx : evalL G L x = some (I a)) (hy : evalL G L y = some (I b)) (h1 : -9223372036854775808 ≤ a + b) (h2 : a + b ≤ 9223372036854775807) : St P G L (.binOp .add t x y u) h (I (a + b)) h :=
  bin hx hy (by show some (AV.int .i64 (wrapF .i64 (a + b))) = _; rw [wrapF_self h1 h2])
theorem sub (hx : evalL G L x = some (I a)) (hy : evalL G L y = some (I b)) (h1 : -9223372036854775808 ≤ a - b) (h2 : a - b ≤ 9223372036854775807) : St P G L (.binOp .sub t x y u) h (I (a - b)) h :=
  bin hx hy (by show some (AV.int .i64 (wrapF .i64 (a - b))) = _; rw [wrapF_self h1 h2])
theorem mul (hx : evalL G L x = some (I a)) (hy : evalL G L y = some (I b)) (h1 : -9223372036854775808 ≤ a * b) (h2 : a * b ≤ 9223372036854775807) : St P G L (.binOp .mul t x y u) h (I (a * b)) h :=
  bin hx hy (by show some (AV.int .i64 (wrapF .i64 (a * b))) = _; rw [wrapF_self h1 h2])
theorem lss {k : IntKind} (hx : evalL G L x = some (.int k a)) (hy : evalL G L y = some (.int k b)) : St P G L (.binOp .lss t x y u) h (.bool (decide (a < b))) h :=
  bin hx hy (by unfold binA intOp; simp [ltF_eq])
theorem leq {k : IntKind} (hx : evalL G L x = some (.int k a)) (hy : evalL G L y = some (.int k b)) : St P G L (.binOp .leq t x y u) h (.bool (decide (a ≤ b))) h :=
  bin hx hy (by unfold binA intOp; simp [leF_eq])
theorem gtr {k : IntKind} (hx : evalL G L x = some (.int k a)) (hy : evalL G L y = some (.int k b)) : St P G L (.binOp .gtr t x y u) h (.bool (decide (b < a))) h :=
  bin hx hy (by unfold binA intOp; simp [ltF_eq])
theorem geq {k : IntKind} (hx : evalL G L x = some (.int k a)) (hy : evalL G L y = some (.int k b)) : St P G L (.binOp .geq t x y u) h (.bool (decide (b ≤ a))) h :=
  bin hx hy (by unfold binA intOp; simp [leF_eq])
theorem eql {k : IntKind} (hx : evalL G L x = some (.int k a)) (hy : evalL G L y = some (.int k b)) : St P G L (.binOp .eql t x y u) h (.bool (decide (a = b))) h :=
  bin hx hy (by unfold binA intOp; simp [eqF_eq]; rfl)
theorem neq {k : IntKind} (hx : evalL G L x = some (.int k a)) (hy : evalL G L y = some (.int k b)) : St P G L (.binOp .neq t x y u) h (.bool (decide (a ≠ b))) h :=
  bin hx hy (by unfold binA intOp; simp only [eqF_eq]; simp; rfl)
theorem quo (hx : evalL G L x = some (I a)) (hy : evalL G L y = some (I b)) (ha : 0 ≤ a) (ha2 : a ≤ 9223372036854775807) (hb : 0 < b) : St P G L (.binOp .quo t x y u) h (I (a / b)) h :=
  bin hx hy (by
    obtain ⟨m, rfl⟩ := Int.eq_ofNat_of_zero_le ha
    obtain ⟨n, rfl⟩ := Int.eq_ofNat_of_zero_le (Int.le_of_lt hb)
    show (quoF .i64 (.ofNat m) (.ofNat n)).map (AV.int .i64) = _
    unfold quoF
    have : Nat.beq n 0 = false := by rw [← Bool.not_eq_true, Nat.beq_eq]; omega
    dsimp only
    rw [this]
    dsimp only
    have e : (Int.ofNat (Nat.div m n)) = (m : Int) / (n : Int) := rfl
    have h3 : m / n ≤ m := Nat.div_le_self m n
    rw [e, wrapF_self]
    · rfl
    · have : (0:Int) ≤ (m:Int)/(n:Int) := Int.ediv_nonneg (by omega) (by omega)
      omega
    · have : (m:Int)/(n:Int) = ((m / n : Nat) : Int) := rfl
      omega)
theorem rem {k : IntKind} (hx : evalL G L x = some (.int k a)) (hy : evalL G L y = some (.int k b)) (ha : 0 ≤ a) (hb : 0 < b) : St P G L (.binOp .rem t x y u) h (.int k (a % b)) h :=
  bin hx hy (by
    obtain ⟨m, rfl⟩ := Int.eq_ofNat_of_zero_le ha
    obtain ⟨n, rfl⟩ := Int.eq_ofNat_of_zero_le (Int.le_of_lt hb)
    unfold binA intOp
    simp only [decide_true]
    show (remF (.ofNat m) (.ofNat n)).map (AV.int k) = _
    unfold remF
    have : Nat.beq n 0 = false := by rw [← Bool.not_eq_true, Nat.beq_eq]; omega
    dsimp only
    rw [this]
    rfl)
theorem not {c : Bool} (hx : evalL G L x = some (.bool c)) : St P G L (.unOp .not t x) h (.bool (!c)) h := un hx (by cases c <;> rfl)
theorem neg (hx : evalL G L x = some (I a)) (h1 : -9223372036854775807 ≤ a) (h2 : a ≤ 9223372036854775807) : St P G L (.unOp .neg t x) h (I (-a)) h :=
  un hx (by show some (AV.int .i64 (wrapF .i64 (0 - a))) = _; rw [wrapF_self (by omega) (by omega)]; simp)

/-- Bits of numbers that are not below 0. -/
theorem and {k : IntKind} {m n : Nat} (hx : evalL G L x = some (.int k (m : Int))) (hy : evalL G L y = some (.int k (n : Int))) (hm : m < lim k) (hn : n < lim k) : St P G L (.binOp .and t x y u) h (.int k ((m &&& n : Nat) : Int)) h :=
  bin hx hy (by
    unfold binA intOp
    simp only [decide_true]
    show (bitsF .and k (.ofNat m) (.ofNat n)).map (AV.int k) = _
    unfold bitsF
    simp only [show Nat.ble (Nat.succ m) (lim k) = true from Nat.ble_eq_true_of_le hm, show Nat.ble (Nat.succ n) (lim k) = true from Nat.ble_eq_true_of_le hn]
    rfl)
theorem or {k : IntKind} {m n : Nat} (hx : evalL G L x = some (.int k (m : Int))) (hy : evalL G L y = some (.int k (n : Int))) (hm : m < lim k) (hn : n < lim k) : St P G L (.binOp .or t x y u) h (.int k ((m ||| n : Nat) : Int)) h :=
  bin hx hy (by
    unfold binA intOp
    simp only [decide_true]
    show (bitsF .or k (.ofNat m) (.ofNat n)).map (AV.int k) = _
    unfold bitsF
    simp only [show Nat.ble (Nat.succ m) (lim k) = true from Nat.ble_eq_true_of_le hm, show Nat.ble (Nat.succ n) (lim k) = true from Nat.ble_eq_true_of_le hn]
    rfl)
theorem shl {k' : IntKind} {m n : Nat} (hx : evalL G L x = some (I (m : Int))) (hy : evalL G L y = some (.int k' (n : Int))) (hn : n < 64) (hm : m <<< n ≤ 9223372036854775807) : St P G L (.binOp .shl t x y u) h (I ((m <<< n : Nat) : Int)) h :=
  bin hx hy (by
    show (shiftF .shl .i64 (.ofNat m) (.ofNat n)).map (AV.int .i64) = _
    unfold shiftF
    dsimp only
    rw [minF_eq, show min n IntKind.i64.bits = n by simp [IntKind.bits]; omega]
    show (some (wrapF .i64 ((m <<< n : Nat) : Int))).map (AV.int .i64) = _
    generalize m <<< n = q at hm ⊢
    rw [wrapF_self (by omega) (by omega)]
    rfl)
theorem shr {k k' : IntKind} {m n : Nat} (hx : evalL G L x = some (.int k (m : Int))) (hy : evalL G L y = some (.int k' (n : Int))) (hn : n < k.bits) : St P G L (.binOp .shr t x y u) h (.int k ((m >>> n : Nat) : Int)) h :=
  bin hx hy (by
    unfold binA intOp
    show (shiftF .shr k (.ofNat m) (.ofNat n)).map (AV.int k) = _
    unfold shiftF
    dsimp only
    rw [minF_eq, show min n k.bits = n by omega]
    rfl)
theorem min2 {ts : Array TypeId} (hx : evalL G L x = some (I a)) (hy : evalL G L y = some (I b)) : St P G L (.call ⟨.builtin .min, #[x, y], ts⟩) h (I (min a b)) h :=
  builtin (as := [I a, I b]) (by simp only [evalsL, hx, hy]) (by
    show valO h (some (AV.int .i64 (match ltF b a with | true => b | false => a))) = _
    rw [ltF_eq]
    by_cases hlt : b < a
    · rw [decide_eq_true hlt, show min a b = b by omega]; rfl
    · rw [decide_eq_false hlt, show min a b = a by omega]; rfl)
theorem max2 {ts : Array TypeId} (hx : evalL G L x = some (I a)) (hy : evalL G L y = some (I b)) : St P G L (.call ⟨.builtin .max, #[x, y], ts⟩) h (I (max a b)) h :=
  builtin (as := [I a, I b]) (by simp only [evalsL, hx, hy]) (by
    show valO h (some (AV.int .i64 (match ltF a b with | true => b | false => a))) = _
    rw [ltF_eq]
    by_cases hlt : a < b
    · rw [decide_eq_true hlt, show max a b = b by omega]; rfl
    · rw [decide_eq_false hlt, show max a b = a by omega]; rfl)
end St

theorem bit_iff (d y : Nat) : (((d >>> y) &&& 1 : Nat) : Int) = 1 ↔ d.testBit y = true := by
  rw [Nat.and_one_is_mod, Nat.shiftRight_eq_div_pow, Nat.testBit_eq_decide_div_mod_eq]
  simp only [decide_eq_true_eq]
  omega

/-! ### Lists behind slices -/

abbrev Ints (h : AH) (v : AV) (xs : List Int) : Prop := Sl h v 1 xs.length (xs.map (AV.int .i64))
abbrev OInts (M : Nat) (h : AH) (v : AV) (xs : List Int) : Prop := Osl M h v 1 xs.length (xs.map (AV.int .i64))

theorem Ints.keep {v : AV} {xs : List Int} (hs : Ints h v xs) (hk : Keeps h h') : Ints h' v xs := Sl.keep hs hk
theorem OInts.keep {v : AV} {xs : List Int} (hs : OInts M h v xs) (hk : Keeps h h') : OInts M h' v xs := Osl.keep hs hk
theorem OInts.ints {v : AV} {xs : List Int} (hs : OInts M h v xs) : Ints h v xs := Osl.sl hs
theorem Ints.at {v : AV} {xs : List Int} (hs : Ints h v xs) (ht : shapeA P t = some none) {i : Nat} (hi : i < xs.length) : loadA P t (addrOf v i) h = some (I xs[i]) :=
  Sl.cell hs ht (by simp [hi])
theorem flat_ints (xs : List Int) : allFlat (xs.map (AV.int .i64)) = true := by
  induction xs with
  | nil => rfl
  | cons x r ih => exact ih

theorem OInts.append {sT xT : TypeId} {v x : AV} {xs ys : List Int} (hw : WF h) (ht : AppT P sT xT 1) (hs : OInts M h v xs) (hx : Ints h x ys) (hle : xs.length + ys.length ≤ 1048576) (hM : 0 < M) (hMn : M ≤ h.next) :
    ∃ v' h', appendA P sT xT v x h = some (v', h') ∧ KeepB M h h' ∧ OInts M h' v' (xs ++ ys) := by
  obtain ⟨v', h', h1, h2, h3, _, _⟩ := Osl.append hw ht hs hx (flat_ints ys) hle hM hMn
  exact ⟨v', h', h1, h2, by unfold OInts; simpa using h3⟩

theorem OInts.set {v : AV} {xs : List Int} {i : Nat} {n : Int} (hw : WF h) (hs : OInts M h v xs) (hi : i < xs.length) (hz : szA P t = some 1) (hM : 0 < M) :
    ∃ h', storeA P t (addrOf v i) (I n) h = some h' ∧ KeepB M h h' ∧ OInts M h' v (xs.set i n) ∧ h'.next = h.next := by
  obtain ⟨h', h1, h2, h3, h4, _⟩ := Osl.set (a := I n) (vs := [I n]) hw hs (by simpa using hi) hz rfl rfl rfl hM
  refine ⟨h', h1, h2, ?_, h4⟩
  unfold OInts
  have e : setR (xs.map (AV.int .i64)) (i * 1) [I n] = (xs.set i n).map (AV.int .i64) := by
    unfold setR
    rw [Nat.mul_one, List.map_set, List.set_eq_take_append_cons_drop, if_pos (by simpa using hi)]
    simp
  rw [e] at h3
  simpa using h3

/-- Pairs of integers, two cells each. -/
abbrev Pr := Int × Int
def cellsP : List Pr → List AV
  | [] => []
  | p :: r => I p.1 :: I p.2 :: cellsP r
theorem cellsP_length : ∀ l : List Pr, (cellsP l).length = l.length * 2
  | [] => rfl
  | p :: r => by simp [cellsP, cellsP_length r]; omega
theorem cellsP_append : ∀ (l r : List Pr), cellsP (l ++ r) = cellsP l ++ cellsP r
  | [], r => rfl
  | p :: l, r => by simp [cellsP, cellsP_append l r]
theorem cellsP_get0 : ∀ (l : List Pr) (i : Nat) (hi : i < l.length), (cellsP l)[i * 2]? = some (I l[i].1)
  | p :: r, 0, _ => rfl
  | p :: r, i + 1, hi => by
    have : (i + 1) * 2 = i * 2 + 1 + 1 := by omega
    rw [this]
    simpa [cellsP] using cellsP_get0 r i (by simpa using hi)
theorem cellsP_get1 : ∀ (l : List Pr) (i : Nat) (hi : i < l.length), (cellsP l)[i * 2 + 1]? = some (I l[i].2)
  | p :: r, 0, _ => rfl
  | p :: r, i + 1, hi => by
    have : (i + 1) * 2 + 1 = (i * 2 + 1) + 1 + 1 := by omega
    rw [this]
    simpa [cellsP] using cellsP_get1 r i (by simpa using hi)
theorem cellsP_part : ∀ (l : List Pr) (i : Nat) (hi : i < l.length), ((cellsP l).drop (i * 2)).take 2 = [I l[i].1, I l[i].2]
  | p :: r, 0, _ => rfl
  | p :: r, i + 1, hi => by
    have : (i + 1) * 2 = i * 2 + 1 + 1 := by omega
    rw [this]
    simpa [cellsP] using cellsP_part r i (by simpa using hi)
theorem flat_pairs : ∀ l : List Pr, allFlat (cellsP l) = true
  | [] => rfl
  | p :: r => flat_pairs r

abbrev Pairs (h : AH) (v : AV) (xs : List Pr) : Prop := Sl h v 2 xs.length (cellsP xs)
abbrev OPairs (M : Nat) (h : AH) (v : AV) (xs : List Pr) : Prop := Osl M h v 2 xs.length (cellsP xs)
theorem Pairs.keep {v : AV} {xs : List Pr} (hs : Pairs h v xs) (hk : Keeps h h') : Pairs h' v xs := Sl.keep hs hk
theorem OPairs.keep {v : AV} {xs : List Pr} (hs : OPairs M h v xs) (hk : Keeps h h') : OPairs M h' v xs := Osl.keep hs hk
theorem OPairs.pairs {v : AV} {xs : List Pr} (hs : OPairs M h v xs) : Pairs h v xs := Osl.sl hs
theorem Pairs.at {v : AV} {xs : List Pr} (hs : Pairs h v xs) (ht : shapeA P t = some (some 2)) {i : Nat} (hi : i < xs.length) : loadA P t (addrOf v i) h = some (.agg [I xs[i].1, I xs[i].2]) := by
  rw [Sl.cells hs ht hi, cellsP_part _ _ hi]
theorem Pairs.at0 {v : AV} {xs : List Pr} (hs : Pairs h v xs) (ht : shapeA P t = some none) {i : Nat} (hi : i < xs.length) : loadA P t (addrAt (addrOf v i) 0) h = some (I xs[i].1) :=
  Sl.part hs ht (by simpa using cellsP_get0 xs i hi)
theorem Pairs.at1 {v : AV} {xs : List Pr} (hs : Pairs h v xs) (ht : shapeA P t = some none) {i : Nat} (hi : i < xs.length) : loadA P t (addrAt (addrOf v i) 1) h = some (I xs[i].2) :=
  Sl.part hs ht (cellsP_get1 xs i hi)
theorem OPairs.append {sT xT : TypeId} {v x : AV} {xs ys : List Pr} (hw : WF h) (ht : AppT P sT xT 2) (hs : OPairs M h v xs) (hx : Pairs h x ys) (hle : xs.length + ys.length ≤ 1048576) (hM : 0 < M) (hMn : M ≤ h.next) :
    ∃ v' h', appendA P sT xT v x h = some (v', h') ∧ KeepB M h h' ∧ OPairs M h' v' (xs ++ ys) := by
  obtain ⟨v', h', h1, h2, h3, _, _⟩ := Osl.append hw ht hs hx (flat_pairs ys) hle hM hMn
  exact ⟨v', h', h1, h2, by unfold OPairs; rw [cellsP_append]; simpa using h3⟩
end
end
end Go.Proofs.Ytllldiokcnheiaa.Ab

namespace Go.Proofs.Ytllldiokcnheiaa.Ab
noncomputable section

mutual
theorem AV.same_refl : ∀ a : AV, a.same a = true
  | .bool b => by cases b <;> rfl
  | .int k n => by simp [AV.same, eqF_self]
  | .str s => by simp [AV.same]
  | .nilp => rfl
  | .ptr b o => by simp [AV.same]
  | .nils => rfl
  | .sl b o l c z e => by simp [AV.same]; cases e <;> rfl
  | .nilm => rfl
  | .map b => by simp [AV.same]
  | .fn f as bs => by simp [AV.same, sames_refl as, sames_refl bs]
  | .nilf => rfl
  | .iface t v => by simp [AV.same, AV.same_refl v]
  | .nili => rfl
  | .agg as => by simp [AV.same, sames_refl as]
  | .tup as => by simp [AV.same, sames_refl as]
theorem sames_refl : ∀ as : List AV, sames as as = true
  | [] => rfl
  | a :: r => by simp [sames, AV.same_refl a, sames_refl r]
end

section
variable {P : Program} {O : CallF} {G N K : Nat} {F : Fr} {L : LF} {h h1 : AH}

/-- What an operation has come to, as `Ran`. -/
structure RanL where
  i : Nat
  L : LF
  h : AH
  v : AV
  h' : AH

def RanR (r : Ran) (s : RanL) : Prop := r.i = s.i ∧ Has r.F s.L ∧ r.h = s.h ∧ r.v = s.v ∧ r.h' = s.h'

inductive RansR : List Ran → List RanL → Prop where
  | nil : RansR [] []
  | cons {r : Ran} {s : RanL} {rs : List Ran} {ss : List RanL} (h : RanR r s) (t : RansR rs ss) : RansR (r :: rs) (s :: ss)

def Dr (P : Program) (O : CallF) (G N : Nat) (ops : List Oper) (ord : List Nat) (L : LF) (h : AH) (rs : List RanL) (Q : LF → AH → List RanL → Prop) : Prop :=
  ∀ F, Has F L → ∀ rsF, RansR rsF rs → ∃ n F1 h1 L1 rs1F rs1, runCanon P G (callA P O G n) N ops ord F h rsF = some (F1, h1, rs1F) ∧ Has F1 L1 ∧ RansR rs1F rs1 ∧ Q L1 h1 rs1

theorem runCanon_cons {call : CallF} {ops : List Oper} {i : Nat} {r : List Nat} {rs : List Ran} {o : Oper} {a : AV} {F' : Fr} (ho : ops[i]? = some o) (hd : doOp P G call ops o F h = some (a, h1)) (hp : putA N F o.dst a = some F') :
    runCanon P G call N ops (i :: r) F h rs = runCanon P G call N ops r F' h1 (⟨i, F, h, a, h1⟩ :: rs) := by
  show (match ops[i]? with | none => none | some o => _) = _
  rw [ho]
  dsimp only
  rw [hd]
  dsimp only
  rw [hp]

namespace Dr
variable {ops : List Oper} {r : List Nat} {rs : List RanL} {Q : LF → AH → List RanL → Prop} {d : Option Tmp} {op : Op} {ty : TypeId} {pos : String} {aft : Array Edge} {a : AV} {i : Nat}

theorem nil (hQ : Q L h rs) : Dr P O G N ops [] L h rs Q := fun F hF rsF hrs => ⟨0, F, h, L, rsF, rs, rfl, hF, hrs, hQ⟩

theorem val (hs : St P G L op h a h1) (ho : ops[i]? = some ⟨d, op, ty, pos, aft, none⟩) (hd : Rn.okD N d = true) (k : Dr P O G N ops r (putL L d a) h1 (⟨i, L, h, a, h1⟩ :: rs) Q) : Dr P O G N ops (i :: r) L h rs Q := fun F hF rsF hrs => by
  obtain ⟨F', hF'⟩ := Rn.put_ok hd F a
  obtain ⟨n, F1, h2, L1, rs1F, rs1, k1, k2, k3, k4⟩ := k F' (hF.put hF') (⟨i, F, h, a, h1⟩ :: rsF) (.cons ⟨rfl, hF, rfl, rfl, rfl⟩ hrs)
  refine ⟨n, F1, h2, L1, rs1F, rs1, ?_, k2, k3, k4⟩
  rw [runCanon_cons ho (doOp_val (hs F hF)) hF']
  exact k1

theorem runCanon_up {ops : List Oper} {ord : List Nat} {n m : Nat} (hnm : n ≤ m) {F : Fr} {h : AH} {rs : List Ran} {r : Fr × AH × List Ran} (hr : runCanon P G (callA P O G n) N ops ord F h rs = some r) : runCanon P G (callA P O G m) N ops ord F h rs = some r :=
  runCanon_mono (callA_mono (fun N K c F h r he => exec_mono hnm N K c F h r he)) hr

theorem call {x : Operand} {xs : Array Operand} {ts : Array TypeId} {as first cap : List AV} {g : FuncId} {C : AV → AH → Prop} (hx : evalL G L x = some (.fn (.func g) first cap)) (hxs : evalsL G L xs.toList = some as)
    (ho : ops[i]? = some ⟨d, .call ⟨.value x, xs, ts⟩, ty, pos, aft, none⟩) (hd : Rn.okD N d = true) (hc : Cl P O G g (first ++ as ++ cap) h C) (k : ∀ v h1, C v h1 → Dr P O G N ops r (putL L d v) h1 (⟨i, L, h, v, h1⟩ :: rs) Q) : Dr P O G N ops (i :: r) L h rs Q := fun F hF rsF hrs => by
  obtain ⟨n, v, h1, c1, c2⟩ := hc
  obtain ⟨F', hF'⟩ := Rn.put_ok hd F v
  obtain ⟨m, F1, h2, L1, rs1F, rs1, k1, k2, k3, k4⟩ := k v h1 c2 F' (hF.put hF') (⟨i, F, h, v, h1⟩ :: rsF) (.cons ⟨rfl, hF, rfl, rfl, rfl⟩ hrs)
  refine ⟨max n m, F1, h2, L1, rs1F, rs1, ?_, k2, k3, k4⟩
  have e : doOp P G (callA P O G (max n m)) ops ⟨d, .call ⟨.value x, xs, ts⟩, ty, pos, aft, none⟩ F h = some (v, h1) := by
    unfold doOp wantedA
    dsimp only
    rw [stepT_eq]
    unfold stepA
    dsimp only
    rw [hF.evals hxs, hF.eval hx]
    exact callA_mono (fun N K c F h r he => exec_mono (Nat.le_max_left n m) N K c F h r he) _ _ _ _ c1
  rw [runCanon_cons ho e hF']
  exact runCanon_up (Nat.le_max_right n m) k1
theorem guardT {j : Nat} {want : Bool} {tg : Tmp} (hj : Rn.guardOf ops j = some tg) (ho : ops[i]? = some ⟨d, op, ty, pos, aft, some (j, want)⟩) (hb : L.get tg = some (.bool want)) (hs : St P G L op h a h1) (hd : Rn.okD N d = true)
    (k : Dr P O G N ops r (putL L d a) h1 (⟨i, L, h, a, h1⟩ :: rs) Q) : Dr P O G N ops (i :: r) L h rs Q := fun F hF rsF hrs => by
  obtain ⟨F', hF'⟩ := Rn.put_ok hd F a
  obtain ⟨n, F1, h2, L1, rs1F, rs1, k1, k2, k3, k4⟩ := k F' (hF.put hF') (⟨i, F, h, a, h1⟩ :: rsF) (.cons ⟨rfl, hF, rfl, rfl, rfl⟩ hrs)
  refine ⟨n, F1, h2, L1, rs1F, rs1, ?_, k2, k3, k4⟩
  have e : doOp P G (callA P O G n) ops ⟨d, op, ty, pos, aft, some (j, want)⟩ F h = some (a, h1) := by
    have hw : wantedA ops F ⟨d, op, ty, pos, aft, some (j, want)⟩ = some true := by
      have hget := hF _ _ hb
      unfold Rn.guardOf at hj
      unfold wantedA
      dsimp only
      split at hj
      · cases hj
      · rename_i o ho
        rw [ho]
        dsimp only
        rw [hj]
        dsimp only
        rw [hget]
        cases want <;> rfl
    unfold doOp
    rw [hw]
    dsimp only
    rw [stepT_eq, hs F hF]
  rw [runCanon_cons ho e hF']
  exact k1

theorem guardF {j : Nat} {want b : Bool} {tg : Tmp} (hj : Rn.guardOf ops j = some tg) (ho : ops[i]? = some ⟨d, op, ty, pos, aft, some (j, want)⟩) (hb : L.get tg = some (.bool b)) (hbw : eqB b want = false) (hd : Rn.okD N d = true)
    (k : Dr P O G N ops r (putL L d (.tup [])) h (⟨i, L, h, .tup [], h⟩ :: rs) Q) : Dr P O G N ops (i :: r) L h rs Q := fun F hF rsF hrs => by
  obtain ⟨F', hF'⟩ := Rn.put_ok hd F (.tup [])
  obtain ⟨n, F1, h2, L1, rs1F, rs1, k1, k2, k3, k4⟩ := k F' (hF.put hF') (⟨i, F, h, .tup [], h⟩ :: rsF) (.cons ⟨rfl, hF, rfl, rfl, rfl⟩ hrs)
  refine ⟨n, F1, h2, L1, rs1F, rs1, ?_, k2, k3, k4⟩
  rw [runCanon_cons ho (Rn.doOp_skip hj (hF _ _ hb) hbw) hF']
  exact k1

/-- Which way a guard goes. -/
theorem split {l : List Nat} {tg : Tmp} {b : Bool} (hb : L.get tg = some (.bool b)) (k1 : b = true → Dr P O G N ops l (.cons tg (.bool true) L) h rs Q) (k0 : b = false → Dr P O G N ops l (.cons tg (.bool false) L) h rs Q) : Dr P O G N ops l L h rs Q := fun F hF rsF hrs => by
  cases b with
  | true => exact k1 rfl F (hF.refine hb) rsF hrs
  | false => exact k0 rfl F (hF.refine hb) rsF hrs
end Dr

/-- What is asked of one load, at the memories at which it may be carried out. -/
inductive LoadP (P : Program) (G : Nat) (ops : List Oper) (B : List Nat) (l : RanL) (op : Op) : List (Nat × AH) → Prop where
  | nil : LoadP P G ops B l op []
  /-- An effect that follows it. -/
  | before {e : Nat} {h : AH} {xs : List (Nat × AH)} (hb : bit (B.getD e 0) l.i = true) (t : LoadP P G ops B l op xs) : LoadP P G ops B l op ((e, h) :: xs)
  /-- One that has nothing to do with it. -/
  | free {e : Nat} {h h2 : AH} {xs : List (Nat × AH)} (hs : St P G l.L op h l.v h2) (t : LoadP P G ops B l op xs) : LoadP P G ops B l op ((e, h) :: xs)
  /-- One that it follows. -/
  | behind {e : Nat} {h h2 : AH} {xs : List (Nat × AH)} (hs : St P G l.L op h l.v h2) (hnb : bit (B.getD e 0) l.i = false) (hb : bit (B.getD l.i 0) e = true) : LoadP P G ops B l op ((e, h) :: xs)

theorem LoadP.ok {ops : List Oper} {B : List Nat} {l : RanL} {op : Op} {o : Oper} {r : Ran} (hr : RanR r l) (hdo : ∀ h h2, St P G l.L op h l.v h2 → doOp P G (fun _ _ _ => none) ops o r.F h = some (l.v, h2)) : ∀ {xs : List (Nat × AH)}, LoadP P G ops B l op xs → loadOk P G ops B r o xs = true
  | [], _ => rfl
  | (e, h) :: xs, hp => by
    obtain ⟨g1, g2, g3, g4, g5⟩ := hr
    unfold loadOk
    rw [g1]
    cases hp with
    | before hb t => rw [hb]; exact LoadP.ok ⟨g1, g2, g3, g4, g5⟩ hdo t
    | free hs t =>
      have ih := LoadP.ok ⟨g1, g2, g3, g4, g5⟩ hdo t
      rw [hdo _ _ hs]
      dsimp only
      rw [g4, AV.same_refl, ih]
      split
      · rfl
      · dsimp only; split <;> rfl
    | behind hs hnb hb =>
      rw [hnb, hdo _ _ hs]
      dsimp only
      rw [g4, AV.same_refl, hb]

theorem skip_ok {ops : List Oper} {B : List Nat} {o : Oper} {r : Ran} (hv : r.v = .tup []) (hdo : ∀ h, doOp P G (fun _ _ _ => none) ops o r.F h = some (.tup [], h)) : ∀ xs : List (Nat × AH), loadOk P G ops B r o xs = true
  | [] => rfl
  | (e, h) :: xs => by
    have ih := skip_ok (B := B) hv hdo xs
    unfold loadOk
    rw [hdo]
    dsimp only
    rw [hv, AV.same_refl, ih]
    split
    · rfl
    · dsimp only; split <;> rfl

theorem doOp_guardT {call : CallF} {ops : List Oper} {j : Nat} {want : Bool} {tg : Tmp} {d : Option Tmp} {op : Op} {ty : TypeId} {pos : String} {aft : Array Edge} {a : AV} (hj : Rn.guardOf ops j = some tg) (hget : F.get tg = some (.bool want)) (hs : stepA P G F op h = some (.val a h1)) :
    doOp P G call ops ⟨d, op, ty, pos, aft, some (j, want)⟩ F h = some (a, h1) := by
  have hw : wantedA ops F ⟨d, op, ty, pos, aft, some (j, want)⟩ = some true := by
    unfold Rn.guardOf at hj
    unfold wantedA
    dsimp only
    split at hj
    · cases hj
    · rename_i o ho
      rw [ho]
      dsimp only
      rw [hj]
      dsimp only
      rw [hget]
      cases want <;> rfl
  unfold doOp
  rw [hw]
  dsimp only
  rw [stepT_eq, hs]

/-- What is asked of the loads of a region. -/
inductive LoadsP (P : Program) (G : Nat) (ops : List Oper) (B : List Nat) (xs : List (Nat × AH)) : List RanL → Prop where
  | nil : LoadsP P G ops B xs []
  | pass {s : RanL} {rs : List RanL} {o : Oper} (ho : ops[s.i]? = some o) (hk : (match kindOf o.op with | .load => true | _ => false) = false) (t : LoadsP P G ops B xs rs) : LoadsP P G ops B xs (s :: rs)
  | load {s : RanL} {rs : List RanL} {d : Option Tmp} {op : Op} {ty : TypeId} {pos : String} {aft : Array Edge} (ho : ops[s.i]? = some ⟨d, op, ty, pos, aft, none⟩) (hl : LoadP P G ops B s op xs) (t : LoadsP P G ops B xs rs) : LoadsP P G ops B xs (s :: rs)
  | gload {s : RanL} {rs : List RanL} {d : Option Tmp} {op : Op} {ty : TypeId} {pos : String} {aft : Array Edge} {j : Nat} {want : Bool} (tg : Tmp) (ho : ops[s.i]? = some ⟨d, op, ty, pos, aft, some (j, want)⟩) (hj : Rn.guardOf ops j = some tg) (hb : s.L.get tg = some (.bool want))
      (hl : LoadP P G ops B s op xs) (t : LoadsP P G ops B xs rs) : LoadsP P G ops B xs (s :: rs)
  | gskip {s : RanL} {rs : List RanL} {d : Option Tmp} {op : Op} {ty : TypeId} {pos : String} {aft : Array Edge} {j : Nat} {want b : Bool} (tg : Tmp) (ho : ops[s.i]? = some ⟨d, op, ty, pos, aft, some (j, want)⟩) (hj : Rn.guardOf ops j = some tg) (hb : s.L.get tg = some (.bool b)) (hbw : eqB b want = false)
      (hv : s.v = .tup []) (t : LoadsP P G ops B xs rs) : LoadsP P G ops B xs (s :: rs)

def snapsL (ops : List Oper) (h₀ : AH) : List RanL → List (Nat × AH)
  | [] => [(ops.length, h₀)]
  | r :: rs => match ops[r.i]? with
    | some o => match kindOf o.op with
      | .eff => (r.i, r.h') :: snapsL ops h₀ rs
      | _ => snapsL ops h₀ rs
    | none => snapsL ops h₀ rs

theorem snaps_eq {ops : List Oper} {h₀ : AH} : ∀ {rs : List Ran} {ss : List RanL}, RansR rs ss → snaps ops h₀ rs = snapsL ops h₀ ss
  | _, _, .nil => rfl
  | _, _, .cons (s := s) ⟨g1, g2, g3, g4, g5⟩ t => by
    unfold snaps snapsL
    rw [g1, g5, snaps_eq t]
    cases ops[s.i]? with
    | none => rfl
    | some o => cases kindOf o.op <;> rfl

theorem LoadsP.ok {ops : List Oper} {B : List Nat} {xs : List (Nat × AH)} : ∀ {rs : List Ran} {ss : List RanL}, RansR rs ss → LoadsP P G ops B xs ss → loadsOk P G ops B xs rs = true
  | _, _, .nil, _ => rfl
  | _, _, .cons (r := r) (s := s) hr t, hp => by
    unfold loadsOk
    rw [hr.1]
    cases hp with
    | pass ho hk ht =>
      rename_i o
      have ih := LoadsP.ok t ht
      rw [ho]
      dsimp only
      split
      · rename_i h; rw [h] at hk; cases hk
      · exact ih
    | load ho hl ht =>
      have ih := LoadsP.ok t ht
      rw [ho]
      dsimp only
      split
      · rw [LoadP.ok hr (fun h h2 hs => doOp_val (hs _ hr.2.1)) hl]; exact ih
      · exact ih
    | gload tg ho hj hb hl ht =>
      have ih := LoadsP.ok t ht
      rw [ho]
      dsimp only
      split
      · rw [LoadP.ok hr (fun h h2 hs => doOp_guardT hj (hr.2.1 _ _ hb) (hs _ hr.2.1)) hl]; exact ih
      · exact ih
    | gskip tg ho hj hb hbw hv ht =>
      have ih := LoadsP.ok t ht
      rw [ho]
      dsimp only
      split
      · rw [skip_ok (hr.2.2.2.1.trans hv) (fun h => Rn.doOp_skip hj (hr.2.1 _ _ hb) hbw)]; exact ih
      · exact ih

/-- Behind a region that draws. -/
def DoneD (P : Program) (G K : Nat) (ops : List Oper) (h₀ : AH) (R : Ex → LF → AH → Prop) : LF → AH → List RanL → Prop := fun L1 h1 rs =>
  LoadsP P G ops (masks ops []) (snapsL ops h₀ rs) rs ∧ ∃ L2, Sub K L2 L1 ∧ R .normal L2 h1

theorem runCanon_wrote {call : CallF} {ops : List Oper} {F₀ : Fr} : ∀ {l : List Nat} {F F1 : Fr} {h h1 : AH} {rs rs1 : List Ran}, runCanon P G call N ops l F h rs = some (F1, h1, rs1) → Wrote ops F₀ F → Wrote ops F₀ F1
  | [], F, F1, h, h1, rs, rs1, hr, hw => by cases hr; exact hw
  | i :: r, F, F1, h, h1, rs, rs1, hr, hw => by
    unfold runCanon at hr
    split at hr <;> try (cases hr; done)
    rename_i o ho
    split at hr <;> try (cases hr; done)
    split at hr <;> try (cases hr; done)
    rename_i F' hp
    exact runCanon_wrote hr (hw.put (List.mem_of_getElem? ho) hp)

theorem EvL.draw {id : Nat} {ops : Array Oper} {R : Ex → LF → AH → Prop} {ord : List Nat} (hok : regionOk ops.toList (masks ops.toList []) (canonOf ops.toList) = true) (hord : canonOf ops.toList = ord)
    (hr : Dr P O G N ops.toList ord L h [] (DoneD P G K ops.toList h R)) : EvL P O G N K (.region id ops true) L h R := fun F hl hF => by
  obtain ⟨n, F1, h1, L1, rs1F, rs1, k1, k2, k3, k4, L2, k5, k6⟩ := hr F hF [] .nil
  have hrun : runDraw P G (callA P O G n) N ops.toList F h = some (F1, h1) := by
    unfold runDraw
    rw [hok]
    dsimp only
    rw [hord, k1]
    dsimp only
    rw [snaps_eq k3, LoadsP.ok k3 k4]
  have hw := runCanon_wrote k1 (F₀ := F) ⟨rfl, fun t x hx => by rw [hl] at hx; cases hx⟩
  refine ⟨n + 1, .normal, F1.flush (keeps K ops.toList), h1, L2, ?_, rfl, ?_, k6⟩
  · rw [exec_succ]; dsimp only; rw [hrun]; rfl
  · intro t a ht
    obtain ⟨g1, g2⟩ := Sub.get k5 t a ht
    rw [flush_keep hw g1]
    exact k2 t a g2

theorem Dr.done {ops : List Oper} {R : Ex → LF → AH → Prop} {rs : List RanL} {h₀ : AH} (L2 : LF) (hs : Sub K L2 L) (hl : LoadsP P G ops (masks ops []) (snapsL ops h₀ rs) rs) (hR : R .normal L2 h) :
    Dr P O G N ops [] L h rs (DoneD P G K ops h₀ R) := Dr.nil ⟨hl, L2, hs, hR⟩
end
end
end Go.Proofs.Ytllldiokcnheiaa.Ab

namespace Go.Proofs.Ytllldiokcnheiaa.Ab
noncomputable section
section
variable {P : Program} {O : CallF} {G N K : Nat} {h h1 h' : AH} {M : Nat}

def isNil : AV → Bool
  | .nils => true
  | _ => false

theorem Sl.isNil_iff {v : AV} {sz n : Nat} {cs : List AV} (hs : Sl h v sz n cs) (hv : isNil v = true) : v = .nils ∧ n = 0 ∧ cs = [] := by
  rcases hs with ⟨rfl, rfl, rfl⟩ | ⟨b, off, cap, ex, bs, f, rfl, hb, hl, rfl, hnc⟩
  · exact ⟨rfl, rfl, rfl⟩
  · cases hv

theorem Sl.eqNil {v : AV} {sz n : Nat} {cs : List AV} {t e : TypeId} (hs : Sl h v sz n cs) (ht : P.underlying t = some (.slice e)) : binA P .eql t v .nils = some (.bool (isNil v)) := by
  rcases hs with ⟨rfl, rfl, rfl⟩ | ⟨b, off, cap, ex, bs, f, rfl, hb, hl, rfl, hnc⟩ <;> (unfold binA eqA; simp only [ht]; rfl)
theorem Sl.neNil {v : AV} {sz n : Nat} {cs : List AV} {t e : TypeId} (hs : Sl h v sz n cs) (ht : P.underlying t = some (.slice e)) : binA P .neq t v .nils = some (.bool (!isNil v)) := by
  rcases hs with ⟨rfl, rfl, rfl⟩ | ⟨b, off, cap, ex, bs, f, rfl, hb, hl, rfl, hnc⟩ <;> (unfold binA eqA; simp only [ht]; rfl)

theorem Osl.new {n sz : Nat} {l : List AV} {ex : Bool} (hM : M ≤ h.next) (hl : l.length = n * sz) : Osl M (h.new l) (.sl h.next 0 n n sz ex) sz n l :=
  .inr ⟨_, _, _, _, _, rfl, at_new_self _ _, hM, by omega, by rw [List.take_of_length_le (by omega)], by omega, Nat.le_refl _⟩

theorem AppT.elem {t x : TypeId} {sz : Nat} (ht : AppT P t x sz) : ∃ e, P.underlying t = some (.slice e) ∧ szA P e = some sz := by
  obtain ⟨⟨e, by_, z, h1, h2, h3, h4, h5, h6, h7⟩, _, _⟩ := ht
  exact ⟨e, elemA_eq h1, h2⟩

/-- A slice of one element. -/
theorem one_slice {t x : TypeId} {sz : Nat} {a : AV} {l : List AV} (ht : AppT P t x sz) (hc : cellsA a = l) (hl : l.length = sz) (hsz : sz ≤ 65536) : buildSliceA P t 1 [(0, a)] h = some (.sl h.next 0 1 1 sz true, h.new l) := by
  obtain ⟨⟨e, by_, z, h1, h2, h3, h4, h5, h6, h7⟩, _, hpos⟩ := ht
  unfold buildSliceA
  rw [h1]
  dsimp only
  rw [h2, h5]
  dsimp only
  rw [h6, Nat.ble_eq_true_of_le (show 1 * sz ≤ 16777216 by omega), hpos]
  dsimp only
  unfold fillA
  dsimp only
  rw [hc, show Nat.beq l.length sz = true by simp [hl], Nat.ble_eq_true_of_le (show 0 * sz + sz ≤ (zerosA (cellsA z) (1 * sz)).length by rw [zerosA_length]; omega)]
  dsimp only
  unfold fillA
  dsimp only
  congr 3
  unfold setR
  rw [Nat.zero_mul, List.take_zero, List.drop_of_length_le (by rw [zerosA_length]; omega)]
  simp

theorem no_slice {t x : TypeId} {sz : Nat} (ht : AppT P t x sz) : buildSliceA P t 0 [] h = some (.sl h.next 0 0 0 sz true, h.new []) := by
  obtain ⟨⟨e, by_, z, h1, h2, h3, h4, h5, h6, h7⟩, _, hpos⟩ := ht
  unfold buildSliceA
  rw [h1]
  dsimp only
  rw [h2, h5]
  dsimp only
  rw [h6, Nat.ble_eq_true_of_le (show 0 * sz ≤ 16777216 by omega), hpos]
  dsimp only
  unfold fillA
  simp [zerosA]

/-- One element more. -/
theorem Osl.push {t : TypeId} {sz n : Nat} {v : AV} {cs l : List AV} (hw : WF h) (ht : AppT P t t sz) (hs : Osl M h v sz n cs) (hl : l.length = sz) (hfl : allFlat l = true) (hle : n + 1 ≤ 1048576) (hM : 0 < M) (hMn : M ≤ h.next) :
    ∃ v' h', appendA P t t v (.sl h.next 0 1 1 sz true) (h.new l) = some (v', h') ∧ KeepB M h h' ∧ Osl M h' v' sz (n + 1) (cs ++ l) ∧
      (∀ b B, h.at b = some B → (∀ b' o l c s e bs f, v = .sl b' o l c s e → h.at b' = some (.cells bs f) → B.fam? ≠ some f) → h'.at b = some B) ∧ ∀ f, famOf h' v' = some f → famOf h v = some f ∨ h.next ≤ f := by
  have hk := Kept.new hw l
  have hx : Sl (h.new l) (.sl h.next 0 1 1 sz true) sz 1 l := (Osl.new (M := h.next) (Nat.le_refl _) (by omega)).sl
  obtain ⟨v', h', k1, k2, k3, _, k4, k5⟩ := Osl.append hk.wf ht (hs.keep hk.keep) hx hfl hle hM (Nat.le_trans hMn hk.next)
  refine ⟨v', h', k1, hk.keepB.trans k2, k3, fun b B hB hno => k4 b B (hk.keep b B hB) fun b' o l c s e bs f hv hb => ?_, fun f hf => ?_⟩
  · rcases hs with ⟨rfl, _, _⟩ | ⟨b2, cap, ex, bs2, f2, rfl, hb2, _⟩
    · cases hv
    · cases hv
      have := hk.keep _ _ hb2
      rw [this] at hb; cases hb
      exact hno _ _ _ _ _ _ _ _ rfl hb2
  · rcases k5 f hf with h1 | h1
    · rcases hs with ⟨rfl, _, _⟩ | ⟨b2, cap, ex, bs2, f2, rfl, hb2, _⟩
      · cases h1
      · rw [famOf_sl (hk.keep _ _ hb2)] at h1
        rw [famOf_sl hb2]; exact .inl h1
    · exact .inr (Nat.le_trans hk.next h1)

theorem OInts.push {t : TypeId} {v : AV} {xs : List Int} {x : Int} (hw : WF h) (ht : AppT P t t 1) (hs : OInts M h v xs) (hle : xs.length + 1 ≤ 1048576) (hM : 0 < M) (hMn : M ≤ h.next) :
    ∃ v' h', appendA P t t v (.sl h.next 0 1 1 1 true) (h.new [I x]) = some (v', h') ∧ KeepB M h h' ∧ OInts M h' v' (xs ++ [x]) := by
  obtain ⟨v', h', k1, k2, k3, k4⟩ := Osl.push (l := [I x]) hw ht hs rfl rfl hle hM hMn
  exact ⟨v', h', k1, k2, by unfold OInts; simpa using k3⟩

theorem OPairs.push {t : TypeId} {v : AV} {xs : List Pr} {x y : Int} (hw : WF h) (ht : AppT P t t 2) (hs : OPairs M h v xs) (hle : xs.length + 1 ≤ 1048576) (hM : 0 < M) (hMn : M ≤ h.next) :
    ∃ v' h', appendA P t t v (.sl h.next 0 1 1 2 true) (h.new [I x, I y]) = some (v', h') ∧ KeepB M h h' ∧ OPairs M h' v' (xs ++ [(x, y)]) := by
  obtain ⟨v', h', k1, k2, k3, k4⟩ := Osl.push (l := [I x, I y]) hw ht hs rfl rfl hle hM hMn
  exact ⟨v', h', k1, k2, by unfold OPairs; rw [cellsP_append]; simpa [cellsP] using k3⟩

/-- A new slice of zeros. -/
theorem make_ints {t x : TypeId} {n : Nat} (ht : AppT P t x 1) (hz : ∀ e, P.underlying t = some (.slice e) → zeroA P e = some (I 0)) (hn : n ≤ 1048576) : makeSliceA P t (I n) (I n) h = some (.sl h.next 0 n n 1 true, h.new ((List.replicate n (0 : Int)).map (AV.int .i64))) := by
  obtain ⟨⟨e, by_, z, h1, h2, h3, h4, h5, h6, h7⟩, _, hpos⟩ := ht
  have hz0 := hz e (elemA_eq h1)
  rw [h5] at hz0; cases hz0
  have hnat : natA (I n) = some n := by
    show (match Nat.ble n 1048576 with | true => some n | false => none) = some n
    rw [Nat.ble_eq_true_of_le hn]
  unfold makeSliceA
  rw [h1]
  dsimp only
  rw [h2, h5, h3, hnat]
  dsimp only
  rw [h6, h4, hpos, show Nat.ble n n = true by simp]
  dsimp only
  congr 3
  rw [Nat.mul_one]
  unfold zerosA
  apply List.ext_getElem
  · simp
  · intro i h1 h2
    simp [cellsA]
    rw [show Nat.mod i 1 = 0 from Nat.mod_one i]
    rfl

theorem flat_mem : ∀ {l : List AV}, allFlat l = true → ∀ x ∈ l, x.flat = true
  | [], _, x, hx => by cases hx
  | a :: r, h, x, hx => by
    unfold allFlat at h
    split at h
    · rename_i h1
      rcases List.mem_cons.1 hx with rfl | hx
      · exact h1
      · exact flat_mem h x hx
    · cases h
theorem flat_of_mem : ∀ {l : List AV}, (∀ x ∈ l, x.flat = true) → allFlat l = true
  | [], _ => rfl
  | a :: r, h => by
    unfold allFlat
    rw [h a (by simp)]
    exact flat_of_mem fun x hx => h x (by simp [hx])

theorem flat_zeros {z : List AV} (hz : allFlat z = true) (h0 : z.length ≠ 0) (k : Nat) : allFlat (zerosA z k) = true := by
  refine flat_of_mem fun x hx => ?_
  unfold zerosA at hx
  obtain ⟨i, hi, rfl⟩ := List.mem_map.1 hx
  have hlt : i % z.length < z.length := Nat.mod_lt _ (by omega)
  have e : z.getD (Nat.mod i z.length) .nilp = z[i % z.length] := by
    have : Nat.mod i z.length = i % z.length := rfl
    rw [this, List.getD_eq_getElem?_getD, List.getElem?_eq_getElem hlt]; rfl
  rw [e]
  exact flat_mem hz _ (List.getElem_mem hlt)

/-! ### Slice expressions -/

theorem idxA_nat (k : IntKind) (i : Nat) : idxA (.int k (i : Int)) = some i := rfl

theorem Sl.slice {v : AV} {sz n : Nat} {cs : List AV} {t e : TypeId} {i j : Nat} (hs : Sl h v sz n cs) (ht : P.underlying t = some (.slice e)) (hz : szA P e = some sz) (hij : i ≤ j) (hj : j ≤ n) :
    ∃ v', sliceA P t v (some (I (i : Int))) (some (I (j : Int))) none = some v' ∧ Sl h v' sz (j - i) ((cs.drop (i * sz)).take ((j - i) * sz)) := by
  rcases hs with ⟨rfl, rfl, rfl⟩ | ⟨b, off, cap, ex, bs, f, rfl, hb, hl, rfl, hnc⟩
  · have h1 : i = 0 := by omega
    have h2 : j = 0 := by omega
    subst h1; subst h2
    refine ⟨.nils, ?_, .inl ⟨rfl, rfl, by simp⟩⟩
    unfold sliceA boundA
    simp only [idxA_nat, ht, hz]
    rfl
  · refine ⟨.sl b (off + i * sz) (j - i) (cap - i) sz ex, ?_, .inr ⟨b, _, _, _, bs, f, rfl, hb, ?_, ?_, by omega⟩⟩
    · unfold sliceA boundA
      simp only [idxA_nat, ht, hz]
      simp only [Option.getD_some]
      rw [Nat.ble_eq_true_of_le (show j ≤ cap by omega), Nat.ble_eq_true_of_le hij, show Nat.beq sz sz = true by simp]
    · have e1 : i * sz + (j - i) * sz = j * sz := by rw [← Nat.add_mul]; congr 1; omega
      have e2 : j * sz ≤ n * sz := Nat.mul_le_mul_right sz hj
      omega
    · have e1 : i * sz + (j - i) * sz = j * sz := by rw [← Nat.add_mul]; congr 1; omega
      have e2 : j * sz ≤ n * sz := Nat.mul_le_mul_right sz hj
      rw [List.drop_take, List.drop_drop, List.take_take]
      congr 1
      omega

theorem Sl.slice_from {v : AV} {sz n : Nat} {cs : List AV} {t e : TypeId} {i : Nat} (hs : Sl h v sz n cs) (ht : P.underlying t = some (.slice e)) (hz : szA P e = some sz) (hi : i ≤ n) :
    ∃ v', sliceA P t v (some (I (i : Int))) none none = some v' ∧ Sl h v' sz (n - i) (cs.drop (i * sz)) := by
  obtain ⟨v', h1, h2⟩ := hs.slice (P := P) (i := i) (j := n) ht hz hi (Nat.le_refl _)
  have hlen := hs.length
  have e : (cs.drop (i * sz)).take ((n - i) * sz) = cs.drop (i * sz) := by
    rw [List.take_of_length_le]
    rw [List.length_drop, hlen, Nat.sub_mul]
    exact Nat.le_refl _
  rw [e] at h2
  refine ⟨v', ?_, h2⟩
  rw [← h1]
  rcases hs with ⟨rfl, rfl, rfl⟩ | ⟨b, off, cap, ex, bs, f, rfl, hb, hl, rfl, hnc⟩
  · unfold sliceA boundA; simp only [idxA_nat, ht, hz]; rfl
  · unfold sliceA boundA
    simp only [idxA_nat, ht, hz]
    simp only [Option.getD_some, Option.getD_none]

theorem Sl.slice_to {v : AV} {sz n : Nat} {cs : List AV} {t e : TypeId} {j : Nat} (hs : Sl h v sz n cs) (ht : P.underlying t = some (.slice e)) (hz : szA P e = some sz) (hj : j ≤ n) :
    ∃ v', sliceA P t v none (some (I (j : Int))) none = some v' ∧ Sl h v' sz j (cs.take (j * sz)) := by
  obtain ⟨v', h1, h2⟩ := hs.slice (P := P) (i := 0) (j := j) ht hz (Nat.zero_le _) hj
  refine ⟨v', ?_, by simpa using h2⟩
  rw [← h1]
  rcases hs with ⟨rfl, rfl, rfl⟩ | ⟨b, off, cap, ex, bs, f, rfl, hb, hl, rfl, hnc⟩
  · unfold sliceA boundA; simp only [idxA_nat, ht, hz]; rfl
  · unfold sliceA boundA
    simp only [idxA_nat, ht, hz]
    simp only [Option.getD_some, Option.getD_none]

/-- s[:j] of one's own. -/
theorem Osl.slice_to {v : AV} {sz n : Nat} {cs : List AV} {t e : TypeId} {j : Nat} (hs : Osl M h v sz n cs) (ht : P.underlying t = some (.slice e)) (hz : szA P e = some sz) (hj : j ≤ n) :
    ∃ v', sliceA P t v none (some (I (j : Int))) none = some v' ∧ Osl M h v' sz j (cs.take (j * sz)) := by
  rcases hs with ⟨rfl, rfl, rfl⟩ | ⟨b, cap, ex, bs, f, rfl, hb, hf, hl, rfl, hc, hnc⟩
  · have : j = 0 := by omega
    subst this
    refine ⟨.nils, ?_, .inl ⟨rfl, rfl, by simp⟩⟩
    unfold sliceA boundA; simp only [idxA_nat, ht, hz]; rfl
  · refine ⟨.sl b 0 j cap sz ex, ?_, .inr ⟨b, cap, ex, bs, f, rfl, hb, hf, ?_, ?_, hc, by omega⟩⟩
    · unfold sliceA boundA
      simp only [idxA_nat, ht, hz]
      simp only [Option.getD_some, Option.getD_none]
      rw [Nat.ble_eq_true_of_le (show j ≤ cap by omega), show Nat.ble 0 j = true by simp, show Nat.beq sz sz = true by simp]
      simp
    · have e2 : j * sz ≤ n * sz := Nat.mul_le_mul_right sz hj
      omega
    · have e2 : j * sz ≤ n * sz := Nat.mul_le_mul_right sz hj
      rw [List.take_take]; congr 1; omega

/-- s[i:j:len(s)] is looked at only for its bounds. -/
theorem Sl.slice3 {v : AV} {sz n : Nat} {cs : List AV} {t e : TypeId} {i j : Nat} (hs : Sl h v sz n cs) (ht : P.underlying t = some (.slice e)) (hz : szA P e = some sz) (hij : i ≤ j) (hj : j ≤ n) :
    ∃ v', sliceA P t v (some (I (i : Int))) (some (I (j : Int))) (some (I (n : Int))) = some v' := by
  rcases hs with ⟨rfl, rfl, rfl⟩ | ⟨b, off, cap, ex, bs, f, rfl, hb, hl, rfl, hnc⟩
  · have h1 : i = 0 := by omega
    have h2 : j = 0 := by omega
    subst h1; subst h2
    refine ⟨.nils, ?_⟩
    unfold sliceA boundA; simp only [idxA_nat, ht, hz]; rfl
  · refine ⟨.sl b (off + i * sz) (j - i) (n - i) sz true, ?_⟩
    unfold sliceA boundA
    simp only [idxA_nat, ht, hz]
    simp only [Option.getD_some]
    rw [Nat.ble_eq_true_of_le hnc, Nat.ble_eq_true_of_le hj, Nat.ble_eq_true_of_le hij, show Nat.beq sz sz = true by simp]

/-! ### A part taken out of a slice -/

/-- What lies behind the last element is made zero. -/
theorem Osl.clear_tail (hw : WF h) {v : AV} {sz n m : Nat} {cs : List AV} {t x : TypeId} (ht : AppT P t x sz) (hs : Osl M h v sz n cs) {b cap : Nat} {ex : Bool} (hv : v = .sl b 0 n cap sz ex) (hnm : n ≤ m) (hm : m ≤ cap) (hM : 0 < M) :
    ∃ y h', sliceA P t v (some (I (n : Int))) (some (I (m : Int))) none = some y ∧ clearA P t y h = some (.tup [], h') ∧ KeepB M h h' ∧ Osl M h' v sz n cs := by
  subst hv
  obtain ⟨⟨e, by_, z, h1, h2, h3, h4, h5, h6, h7⟩, hxT, hpos⟩ := ht
  have hu := elemA_eq h1
  have hsz : sz ≠ 0 := Nat.ne_of_beq_eq_false hpos
  have hzl : (cellsA z).length = sz := Nat.eq_of_beq_eq_true h6
  rcases hs with ⟨h0, _, _⟩ | ⟨b', cap', ex', bs, f, hv, hb, hf, hl, rfl, hc, hnc⟩
  · cases h0
  · cases hv
    refine ⟨.sl b (0 + n * sz) (m - n) (cap - n) sz ex, ?_⟩
    have hsl : sliceA P t (.sl b 0 n cap sz ex) (some (I (n : Int))) (some (I (m : Int))) none = some (.sl b (0 + n * sz) (m - n) (cap - n) sz ex) := by
      unfold sliceA boundA
      simp only [idxA_nat, hu, h2]
      simp only [Option.getD_some]
      rw [Nat.ble_eq_true_of_le hm, Nat.ble_eq_true_of_le hnm, show Nat.beq sz sz = true by simp]
    by_cases hmn : m - n = 0
    · refine ⟨h, hsl, ?_, .refl hw, .inr ⟨b, cap, ex, bs, f, rfl, hb, hf, hl, rfl, hc, hnc⟩⟩
      unfold clearA
      rw [h1]
      dsimp only
      rw [hmn]
    · have hlen : (zerosA (cellsA z) ((m - n) * sz)).length = (m - n) * sz := zerosA_length _ _
      have hmul : n * sz + (m - n) * sz = m * sz := by rw [← Nat.add_mul]; congr 1; omega
      have hmul2 : m * sz ≤ cap * sz := Nat.mul_le_mul_right sz hm
      obtain ⟨h', k1, k2, k3, k4, k5, k6⟩ := storeL_own (M := M) hw (off := 0 + n * sz) (vs := zerosA (cellsA z) ((m - n) * sz)) hb hf hM (by omega) (flat_zeros h7 (by omega) _)
      refine ⟨h', hsl, ?_, k2, .inr ⟨b, cap, ex, _, f, rfl, k3, hf, ?_, ?_, ?_, hnc⟩⟩
      · unfold clearA
        rw [h1]
        dsimp only
        rw [show Nat.beq (m - n) 0 = false by rw [← Bool.not_eq_true, Nat.beq_eq]; exact hmn, h2, h5]
        dsimp only
        rw [show Nat.beq sz sz = true by simp, hpos, h6]
        dsimp only
        rw [k1]
      · rw [setR_length (by omega)]; exact hl
      · unfold setR
        rw [List.append_assoc, List.take_append_of_le_length (by simp; omega), List.take_take]
        congr 1; omega
      · rw [setR_length (by omega)]; exact hc

/-- append(s[:i], s[j:]...), and what lies behind made zero. -/
theorem Osl.cut (hw : WF h) {v : AV} {sz n i j : Nat} {cs : List AV} {t : TypeId} (ht : AppT P t t sz) (hs : Osl M h v sz n cs) (hfl : allFlat cs = true) (hij : i ≤ j) (hj : j ≤ n) (hn : n ≤ 1048576) (hM : 0 < M) (hMn : M ≤ h.next) :
    ∃ a b v' h1 y h2, sliceA P t v none (some (I (i : Int))) none = some a ∧ sliceA P t v (some (I (j : Int))) none none = some b ∧ appendA P t t a b h = some (v', h1) ∧
      Osl M h1 v' sz (i + (n - j)) (cs.take (i * sz) ++ cs.drop (j * sz)) ∧ sliceA P t v' (some (I ((i + (n - j) : Nat) : Int))) (some (I (n : Int))) none = some y ∧ clearA P t y h1 = some (.tup [], h2) ∧
      KeepB M h h2 ∧ Osl M h2 v' sz (i + (n - j)) (cs.take (i * sz) ++ cs.drop (j * sz)) := by
  obtain ⟨e, hu, hz⟩ := ht.elem
  obtain ⟨a, ha, oa⟩ := hs.slice_to (P := P) (j := i) hu hz (by omega)
  obtain ⟨b, hb, sb⟩ := hs.sl.slice_from (P := P) (i := j) hu hz hj
  have hfl2 : allFlat (cs.drop (j * sz)) = true := flat_of_mem fun x hx => flat_mem hfl x (List.mem_of_mem_drop hx)
  obtain ⟨v', h1, k1, k2, k3, k4, k5⟩ := Osl.append hw ht oa sb hfl2 (by omega) hM hMn
  rcases hs with ⟨rfl, rfl, rfl⟩ | ⟨b0, cap, ex, bs, f, rfl, hb0, hf, hl, rfl, hc, hnc⟩
  · have hi0 : i = 0 := by omega
    have hj0 : j = 0 := by omega
    subst hi0; subst hj0
    have e1 : a = .nils := by
      unfold sliceA boundA at ha; simp only [idxA_nat, hu, hz] at ha
      have : Option.some AV.nils = some a := ha
      cases this; rfl
    have e2 : v' = .nils := by
      subst e1
      rcases k3 with ⟨h0, _, _⟩ | ⟨b2, cap2, ex2, bs2, f2, hv2, _⟩
      · exact h0
      · exfalso
        have hb2 : b = .nils := by
          unfold sliceA boundA at hb; simp only [idxA_nat, hu, hz] at hb
          have : Option.some AV.nils = some b := hb
          cases this; rfl
        subst hb2
        obtain ⟨⟨e', by_, z, g1, g2, g3, g4, g5, g6, g7⟩, gx, gp⟩ := ht
        unfold appendA at k1
        rw [g1] at k1
        dsimp only at k1
        rw [g2, g3, gx] at k1
        dsimp only at k1
        rw [show newA P false e' sz .nils h = some (0, []) from rfl, g4, gp, g5] at k1
        dsimp only at k1
        rw [g6] at k1
        have : Option.some (AV.nils, h) = some (v', h1) := k1
        cases this
        cases hv2
    subst e2
    refine ⟨a, b, .nils, h1, .nils, h1, ha, hb, k1, k3, ?_, ?_, k2, k3⟩
    · unfold sliceA boundA; simp only [idxA_nat, hu, hz]; rfl
    · unfold clearA; rw [show elemA P t = some e by unfold elemA; rw [hu]]
  · have e1 : a = .sl b0 0 i cap sz ex := by
      unfold sliceA boundA at ha
      simp only [idxA_nat, hu, hz] at ha
      simp only [Option.getD_some, Option.getD_none] at ha
      rw [Nat.ble_eq_true_of_le (show i ≤ cap by omega), show Nat.ble 0 i = true by simp, show Nat.beq sz sz = true by simp] at ha
      simpa using ha.symm
    have e2 := k4 b0 0 cap ex e1 (by omega)
    obtain ⟨y, h2, g1, g2, g3, g4⟩ := Osl.clear_tail (P := P) (m := n) k2.wf ht k3 e2 (by omega) hnc hM
    exact ⟨a, b, v', h1, y, h2, ha, hb, k1, k3, g1, g2, k2.trans g3, g4⟩

theorem St.clear {G : Nat} {L : LF} {x : Operand} {a c : AV} {t : TypeId} (hx : evalL G L x = some a) (hb : clearA P t a h = some (c, h1)) : St P G L (.call ⟨.builtin .clear, #[x], #[t]⟩) h c h1 :=
  St.builtin (as := [a]) (by simp only [evalsL, hx]) (by show valP (clearA P t a h) = _; rw [hb]; rfl)

theorem cellsP_take : ∀ (l : List Pr) (i : Nat), (cellsP l).take (i * 2) = cellsP (l.take i)
  | [], i => by simp [cellsP]
  | p :: r, 0 => by simp [cellsP]
  | p :: r, i + 1 => by
    have : (i + 1) * 2 = i * 2 + 1 + 1 := by omega
    rw [this]
    simp [cellsP, cellsP_take r i]
theorem cellsP_drop : ∀ (l : List Pr) (i : Nat), (cellsP l).drop (i * 2) = cellsP (l.drop i)
  | [], i => by simp [cellsP]
  | p :: r, 0 => by simp [cellsP]
  | p :: r, i + 1 => by
    have : (i + 1) * 2 = i * 2 + 1 + 1 := by omega
    rw [this]
    simp [cellsP, cellsP_drop r i]

/-! ### Two slices of one's own -/

/-- The family of a slice is older. -/
def FamLt (v : AV) (h : AH) (M : Nat) : Prop := ∀ b o l c s e bs f, v = .sl b o l c s e → h.at b = some (.cells bs f) → f < M

theorem FamLt.of (hw : WF h) (v : AV) : FamLt v h h.next := fun b o l c s e bs f _ hb => hw.famlt _ _ _ hb
theorem FamLt.up {v : AV} {M' : Nat} (hf : FamLt v h M) (hM : M ≤ M') : FamLt v h M' := fun b o l c s e bs f hv hb => Nat.lt_of_lt_of_le (hf b o l c s e bs f hv hb) hM
theorem FamLt.keep {v : AV} {sz n N' : Nat} {cs : List AV} (hf : FamLt v h N') (hs : Osl M h v sz n cs) (hk : Keeps h h') : FamLt v h' N' := by
  intro b o l c s e bs f hv hb
  rcases hs with ⟨rfl, _, _⟩ | ⟨b2, cap, ex, bs2, f2, rfl, hb2, _⟩
  · cases hv
  · cases hv
    have := hk _ _ hb2
    rw [this] at hb; cases hb
    exact hf _ _ _ _ _ _ _ _ rfl hb2

/-- What a change of one slice leaves of the others. -/
def FrameOf (v : AV) (h h' : AH) : Prop := ∀ b B, h.at b = some B → (∀ b' o l c s e bs f, v = .sl b' o l c s e → h.at b' = some (.cells bs f) → B.fam? ≠ some f) → h'.at b = some B

theorem Osl.other {v u : AV} {M2 sz n : Nat} {cs : List AV} (hfr : FrameOf v h h') (hlt : FamLt v h M2) (hs : Osl M2 h u sz n cs) : Osl M2 h' u sz n cs := by
  rcases hs with ⟨rfl, rfl, rfl⟩ | ⟨b, cap, ex, bs, f, rfl, hb, hf, hl, rfl, hc, hnc⟩
  · exact .inl ⟨rfl, rfl, rfl⟩
  · refine .inr ⟨b, cap, ex, bs, f, rfl, hfr _ _ hb fun b' o l c s e bs' f' hv hb' hE => ?_, hf, hl, rfl, hc, hnc⟩
    have := hlt _ _ _ _ _ _ _ _ hv hb'
    cases hE
    omega

theorem OInts.push2 {t : TypeId} {v : AV} {xs : List Int} {x : Int} (hw : WF h) (ht : AppT P t t 1) (hs : OInts M h v xs) (hle : xs.length + 1 ≤ 1048576) (hM : 0 < M) (hMn : M ≤ h.next) :
    ∃ v' h', appendA P t t v (.sl h.next 0 1 1 1 true) (h.new [I x]) = some (v', h') ∧ KeepB M h h' ∧ OInts M h' v' (xs ++ [x]) ∧ FrameOf v h h' := by
  obtain ⟨v', h', k1, k2, k3, k4⟩ := Osl.push (l := [I x]) hw ht hs rfl rfl hle hM hMn
  exact ⟨v', h', k1, k2, by unfold OInts; simpa using k3, k4.1⟩

/-- A slice of an array. -/
theorem arr_slice {t e : TypeId} {b off n sz j : Nat} {cs : List AV} (hb : OBx M h b cs) (ht : P.underlying t = some (.array n e)) (hz : szA P e = some sz) (hle : off + n * sz ≤ cs.length) (hj : j ≤ n) :
    ∃ y, sliceA P t (.ptr b off) none (some (I (j : Int))) none = some y ∧ Sl h y sz j ((cs.drop off).take (j * sz)) := by
  obtain ⟨f, h1, h2⟩ := hb
  have e2 : j * sz ≤ n * sz := Nat.mul_le_mul_right sz hj
  refine ⟨.sl b (off + 0 * sz) (j - 0) (n - 0) sz true, ?_, .inr ⟨b, off + 0 * sz, n - 0, true, cs, f, rfl, h1, by simp; omega, by simp, by simpa using hj⟩⟩
  unfold sliceA boundA
  simp only [idxA_nat, ht, hz]
  simp only [Option.getD_some, Option.getD_none]
  rw [Nat.ble_eq_true_of_le hj, show Nat.ble 0 j = true by simp]

/-! ### Slices that have nothing in common; lists of lists -/

def Asun (h : AH) (v a : AV) : Prop := ∀ f, famOf h v = some f → famOf h a ≠ some f
theorem Asun.symm {v a : AV} (hA : Asun h v a) : Asun h a v := fun f hf hv => hA f hv hf
theorem Asun.nil (h : AH) (a : AV) : Asun h .nils a := fun f hf => by cases hf

theorem Sl.fam_keep {v : AV} {sz n : Nat} {cs : List AV} (hs : Sl h v sz n cs) (hk : Keeps h h') : famOf h' v = famOf h v := by
  rcases hs with ⟨rfl, _, _⟩ | ⟨b, off, cap, ex, bs, f, rfl, hb, _⟩
  · rfl
  · rw [famOf_sl hb, famOf_sl (hk _ _ hb)]

theorem Sl.fam_lt {v : AV} {sz n : Nat} {cs : List AV} (hw : WF h) (hs : Sl h v sz n cs) {f : Nat} (hf : famOf h v = some f) : f < h.next := by
  rcases hs with ⟨rfl, _, _⟩ | ⟨b, off, cap, ex, bs, g, rfl, hb, _⟩
  · cases hf
  · rw [famOf_sl hb] at hf; cases hf; exact hw.famlt _ _ _ hb

theorem Osl.fam_ge {v : AV} {sz n : Nat} {cs : List AV} (hs : Osl M h v sz n cs) {f : Nat} (hf : famOf h v = some f) : M ≤ f := by
  rcases hs with ⟨rfl, _, _⟩ | ⟨b, cap, ex, bs, g, rfl, hb, hg, _⟩
  · cases hf
  · rw [famOf_sl hb] at hf; cases hf; exact hg

theorem Asun.keep {v a : AV} {sz n sz' n' : Nat} {cs cs' : List AV} (hA : Asun h v a) (hv : Sl h v sz n cs) (ha : Sl h a sz' n' cs') (hk : Keeps h h') : Asun h' v a := fun f hf => by
  rw [hv.fam_keep hk] at hf; rw [ha.fam_keep hk]; exact hA f hf

/-- Another slice, behind a change of this one. -/
theorem Sl.other {v u : AV} {sz n : Nat} {cs : List AV} (hfr : FrameOf v h h') (hap : Asun h v u) (hs : Sl h u sz n cs) : Sl h' u sz n cs ∧ famOf h' u = famOf h u := by
  rcases hs with ⟨rfl, rfl, rfl⟩ | ⟨b, off, cap, ex, bs, f, rfl, hb, hl, rfl, hnc⟩
  · exact ⟨.inl ⟨rfl, rfl, rfl⟩, rfl⟩
  · have := hfr _ _ hb fun b' o l c s e bs' f' hv hb' hE => by
      subst hv
      have h1 := hap f' (famOf_sl hb')
      rw [famOf_sl hb] at h1
      exact h1 hE
    exact ⟨.inr ⟨b, off, cap, ex, bs, f, rfl, this, hl, rfl, hnc⟩, by rw [famOf_sl hb, famOf_sl this]⟩

theorem Osl.other2 {v u : AV} {M2 sz n : Nat} {cs : List AV} (hfr : FrameOf v h h') (hap : Asun h v u) (hs : Osl M2 h u sz n cs) : Osl M2 h' u sz n cs := by
  rcases hs with ⟨rfl, rfl, rfl⟩ | ⟨b, cap, ex, bs, f, rfl, hb, hf, hl, rfl, hc, hnc⟩
  · exact .inl ⟨rfl, rfl, rfl⟩
  · have := hfr _ _ hb fun b' o l c s e bs' f' hv hb' hE => by
      subst hv
      have h1 := hap f' (famOf_sl hb')
      rw [famOf_sl hb] at h1
      exact h1 hE
    exact .inr ⟨b, cap, ex, bs, f, rfl, this, hf, hl, rfl, hc, hnc⟩

/-- One element more, beside another slice. -/
theorem Osl.push_apart {t : TypeId} {sz n sz' n' : Nat} {v u : AV} {cs cs' l : List AV} (hw : WF h) (ht : AppT P t t sz) (hs : Osl M h v sz n cs) (hu : Osl M h u sz' n' cs') (hA : Asun h v u) (hl : l.length = sz) (hfl : allFlat l = true) (hle : n + 1 ≤ 1048576) (hM : 0 < M) (hMn : M ≤ h.next) :
    ∃ v' h', appendA P t t v (.sl h.next 0 1 1 sz true) (h.new l) = some (v', h') ∧ KeepB M h h' ∧ Osl M h' v' sz (n + 1) (cs ++ l) ∧ Osl M h' u sz' n' cs' ∧ Asun h' v' u := by
  obtain ⟨v', h', k1, k2, k3, k4, k5⟩ := Osl.push hw ht hs hl hfl hle hM hMn
  refine ⟨v', h', k1, k2, k3, Osl.other2 k4 hA hu, fun f hf => ?_⟩
  rw [(Sl.other k4 hA hu.sl).2]
  rcases k5 f hf with h1 | h1
  · exact hA f h1
  · intro h2
    have := hu.sl.fam_lt hw h2
    omega

theorem Osl.not_nil {v : AV} {sz n : Nat} {cs : List AV} (hs : Osl M h v sz n cs) (hn : 0 < n) : isNil v = false := by
  rcases hs with ⟨rfl, rfl, _⟩ | ⟨b, cap, ex, bs, f, rfl, _⟩
  · omega
  · rfl

theorem Sl.cell1 {v : AV} {sz n : Nat} {cs : List AV} (hs : Sl h v sz n cs) : cellsA v = [v] := by
  rcases hs with ⟨rfl, _, _⟩ | ⟨b, off, cap, ex, bs, f, rfl, _⟩ <;> rfl

theorem Sl.flat1 {v : AV} {sz n : Nat} {cs : List AV} (hs : Sl h v sz n cs) : allFlat [v] = true := by
  rcases hs with ⟨rfl, _, _⟩ | ⟨b, off, cap, ex, bs, f, rfl, _⟩ <;> rfl

/-- Rows behind values. -/
structure Rows (h : AH) (vs : List AV) (rows : List (List Int)) : Prop where
  len : vs.length = rows.length
  row : ∀ (i : Nat) (a : AV) (r : List Int), vs[i]? = some a → rows[i]? = some r → Ints h a r

theorem Rows.keep {vs : List AV} {rows : List (List Int)} (hr : Rows h vs rows) (hk : Keeps h h') : Rows h' vs rows := ⟨hr.len, fun i a r ha hb => (hr.row i a r ha hb).keep hk⟩
theorem Rows.get {vs : List AV} {rows : List (List Int)} (hr : Rows h vs rows) {i : Nat} (hi : i < rows.length) : ∃ a, vs[i]? = some a ∧ Ints h a rows[i] := by
  have hv : i < vs.length := by rw [hr.len]; exact hi
  exact ⟨vs[i], List.getElem?_eq_getElem hv, hr.row i _ _ (List.getElem?_eq_getElem hv) (List.getElem?_eq_getElem hi)⟩
theorem Rows.mem {vs : List AV} {rows : List (List Int)} (hr : Rows h vs rows) {a : AV} (ha : a ∈ vs) : ∃ r, Ints h a r := by
  obtain ⟨i, hi, rfl⟩ := List.getElem_of_mem ha
  have : i < rows.length := by rw [← hr.len]; exact hi
  exact ⟨rows[i], hr.row i _ _ (List.getElem?_eq_getElem hi) (List.getElem?_eq_getElem this)⟩

/-- A slice of rows that is read. -/
structure Mat (h : AH) (v : AV) (vs : List AV) (rows : List (List Int)) : Prop where
  sl : Sl h v 1 rows.length vs
  rows : Rows h vs rows
theorem Mat.keep {v : AV} {vs : List AV} {rows : List (List Int)} (hr : Mat h v vs rows) (hk : Keeps h h') : Mat h' v vs rows := ⟨hr.sl.keep hk, hr.rows.keep hk⟩

/-- A slice of rows of one's own. -/
structure OMat (M : Nat) (h : AH) (v : AV) (vs : List AV) (rows : List (List Int)) : Prop where
  sl : Osl M h v 1 rows.length vs
  rows : Rows h vs rows
  apart : ∀ a ∈ vs, Asun h v a
theorem OMat.mat {v : AV} {vs : List AV} {rows : List (List Int)} (hr : OMat M h v vs rows) : Mat h v vs rows := ⟨hr.sl.sl, hr.rows⟩
theorem OMat.nil (M : Nat) (h : AH) : OMat M h .nils [] [] := ⟨Osl.nil _ _ _, ⟨rfl, fun i a r ha => by simp at ha⟩, fun a ha => by simp at ha⟩
theorem OMat.keep {v : AV} {vs : List AV} {rows : List (List Int)} (hr : OMat M h v vs rows) (hk : Keeps h h') : OMat M h' v vs rows :=
  ⟨hr.sl.keep hk, hr.rows.keep hk, fun a ha => by
    obtain ⟨r, h1⟩ := hr.rows.mem ha
    exact (hr.apart a ha).keep hr.sl.sl h1 hk⟩
theorem OMat.down {M' : Nat} {v : AV} {vs : List AV} {rows : List (List Int)} (hr : OMat M h v vs rows) (hM : M' ≤ M) : OMat M' h v vs rows := ⟨hr.sl.down hM, hr.rows, hr.apart⟩

/-- One row more. -/
theorem OMat.push {t : TypeId} {v a : AV} {vs : List AV} {rows : List (List Int)} {r : List Int} (hw : WF h) (ht : AppT P t t 1) (hs : OMat M h v vs rows) (ha : Ints h a r) (hA : Asun h v a) (hle : rows.length + 1 ≤ 1048576) (hM : 0 < M) (hMn : M ≤ h.next) :
    ∃ v' h', appendA P t t v (.sl h.next 0 1 1 1 true) (h.new [a]) = some (v', h') ∧ KeepB M h h' ∧ OMat M h' v' (vs ++ [a]) (rows ++ [r]) := by
  obtain ⟨v', h', k1, k2, k3, k4, k5⟩ := Osl.push hw ht hs.sl (l := [a]) rfl (Sl.flat1 ha) hle hM hMn
  have hold : ∀ b ∈ vs ++ [a], Asun h v b := fun b hb => by
    rcases List.mem_append.1 hb with hb | hb
    · exact hs.apart b hb
    · rw [show b = a by simpa using hb]; exact hA
  have hint : ∀ b ∈ vs ++ [a], ∃ q, Ints h b q := fun b hb => by
    rcases List.mem_append.1 hb with hb | hb
    · exact hs.rows.mem hb
    · rw [show b = a by simpa using hb]; exact ⟨r, ha⟩
  refine ⟨v', h', k1, k2, ⟨by simpa using k3, ⟨by simp [hs.rows.len], fun i b q hb hq => ?_⟩, fun b hb f hf => ?_⟩⟩
  · have hbm := hold b (List.mem_of_getElem? hb)
    by_cases hi : i < vs.length
    · rw [List.getElem?_append_left hi] at hb
      rw [List.getElem?_append_left (by rw [← hs.rows.len]; exact hi)] at hq
      exact (Sl.other k4 hbm (hs.rows.row i b q hb hq)).1
    · rw [List.getElem?_append_right (by omega)] at hb
      rw [List.getElem?_append_right (by rw [← hs.rows.len]; omega)] at hq
      have h0 : i - vs.length = 0 := by
        have := (List.getElem?_eq_some_iff.1 hb).1
        simp at this; omega
      rw [h0] at hb
      rw [← hs.rows.len, h0] at hq
      simp at hb hq
      subst hb; subst hq
      exact (Sl.other k4 hbm ha).1
  · obtain ⟨q, hq⟩ := hint b hb
    rw [(Sl.other k4 (hold b hb) hq).2]
    rcases k5 f hf with h1 | h1
    · exact hold b hb f h1
    · intro h2
      have := hq.fam_lt hw h2
      omega

/-- A row put in another place. -/
theorem OMat.set {t : TypeId} {v a : AV} {vs : List AV} {rows : List (List Int)} {r : List Int} {i : Nat} (hw : WF h) (hs : OMat M h v vs rows) (ha : Ints h a r) (hA : Asun h v a) (hi : i < rows.length) (hz : szA P t = some 1) (hM : 0 < M) :
    ∃ h', storeA P t (addrOf v i) a h = some h' ∧ KeepB M h h' ∧ OMat M h' v (vs.set i a) (rows.set i r) := by
  have hca : cellsA a = [a] := by
    rcases ha with ⟨rfl, _, _⟩ | ⟨b, off, cap, ex, bs, f, rfl, _⟩ <;> rfl
  obtain ⟨h', k1, k2, k3, k4, k5⟩ := Osl.set (a := a) (vs := [a]) hw hs.sl hi hz hca rfl (Sl.flat1 ha) hM
  have hset : setR vs (i * 1) [a] = vs.set i a := by
    unfold setR
    rw [Nat.mul_one, List.set_eq_take_append_cons_drop, if_pos (by rw [hs.rows.len]; exact hi)]
    simp
  rw [hset] at k3
  obtain ⟨k5, hfam⟩ := k5
  have hint : ∀ b ∈ vs.set i a, Asun h v b ∧ ∃ q, Ints h b q := fun b hb => by
    rcases List.mem_or_eq_of_mem_set hb with hb | rfl
    · exact ⟨hs.apart b hb, hs.rows.mem hb⟩
    · exact ⟨hA, r, ha⟩
  refine ⟨h', k1, k2, ⟨by simpa using k3, ⟨by simp [hs.rows.len], fun j b q hb hq => ?_⟩, fun b hb f hf => ?_⟩⟩
  · have hbm := (hint b (List.mem_of_getElem? hb)).1
    by_cases hj : j = i
    · subst hj
      rw [List.getElem?_set_self (by rw [hs.rows.len]; exact hi)] at hb
      rw [List.getElem?_set_self hi] at hq
      cases hb; cases hq
      exact (Sl.other k5 hbm ha).1
    · rw [List.getElem?_set_ne (fun e => hj e.symm)] at hb
      rw [List.getElem?_set_ne (fun e => hj e.symm)] at hq
      exact (Sl.other k5 hbm (hs.rows.row j b q hb hq)).1
  · obtain ⟨h1, q, hq⟩ := hint b hb
    rw [(Sl.other k5 h1 hq).2]
    rw [hfam] at hf
    exact h1 f hf

theorem KeepB.down {M' : Nat} (k : KeepB M h h') (hM : M' ≤ M) : KeepB M' h h' := ⟨k.next, fun b B hb ho => k.keep b B hb (Nat.lt_of_lt_of_le ho hM), k.wf⟩

theorem Osl.other_box {b : Nat} {cs : List AV} (hfr : ∀ c C, h.at c = some C → (∀ f, h.at b = some (.cells cs f) → C.fam? ≠ some f) → h'.at c = some C) {M2 : Nat} (hlt : ∀ f, h.at b = some (.cells cs f) → f < M2) {u : AV} {sz n : Nat} {cs' : List AV} (hs : Osl M2 h u sz n cs') : Osl M2 h' u sz n cs' := by
  rcases hs with ⟨rfl, rfl, rfl⟩ | ⟨b2, cap, ex, bs, f, rfl, hb, hf, hl, rfl, hc, hnc⟩
  · exact .inl ⟨rfl, rfl, rfl⟩
  · refine .inr ⟨b2, cap, ex, bs, f, rfl, hfr _ _ hb fun g hg hE => ?_, hf, hl, rfl, hc, hnc⟩
    have := hlt g hg
    cases hE
    omega

theorem OBx.fam_lt (hw : WF h) {b : Nat} {cs : List AV} (hb : OBx M h b cs) (hk : Keeps h h') : ∀ f, h'.at b = some (.cells cs f) → f < h.next := fun f hf => by
  obtain ⟨g, h1, _⟩ := hb
  have := hk _ _ h1
  rw [this] at hf; cases hf
  exact hw.famlt _ _ _ h1

theorem resLs_cell_tmp {L : LF} {a b : Tmp} {t : TypeId} {p x y : AV} (hL : L.get a = some p) (hl : loadA P t p h = some x) (hy : L.get b = some y) : resLs P L h [.cell a t, .tmp b] = some [x, y] := by
  unfold resLs resL
  dsimp only
  rw [hL]
  dsimp only
  rw [hl]
  dsimp only
  unfold resLs resL
  dsimp only
  rw [hy]
  rfl
theorem resLs_cell {L : LF} {a : Tmp} {t : TypeId} {p x : AV} (hL : L.get a = some p) (hl : loadA P t p h = some x) : resLs P L h [.cell a t] = some [x] := by
  unfold resLs resL
  dsimp only
  rw [hL]
  dsimp only
  rw [hl]
  rfl

/-- A store into a block whose family is its own name or another one from M on. -/
theorem store_at {M b off f : Nat} {cs : List AV} {y : AV} {t : TypeId} (hz : szA P t = some 1) (hw : WF h) (hb : h.at b = some (.cells cs f)) (hM : M ≤ f) (h0 : 0 < M) (hle : off < cs.length) (hc : cellsA y = [y]) (hfl : y.flat = true) :
    ∃ h', storeA P t (.ptr b off) y h = some h' ∧ KeepB M h h' ∧ h'.at b = some (.cells (setR cs off [y]) f) ∧ h'.next = h.next ∧ (∀ c C, h.at c = some C → C.fam? ≠ some f → h'.at c = some C) := by
  obtain ⟨h', k1, k2, k3, k4, k5, _⟩ := storeL_own (M := M) hw (off := off) (vs := [y]) hb hM h0 (show off + [y].length ≤ _ from hle) (by unfold allFlat; rw [hfl]; rfl)
  refine ⟨h', ?_, k2, k3, k4, k5⟩
  unfold storeA
  dsimp only
  rw [hz, hc]
  exact k1

theorem setR_ints (xs : List Int) (i : Nat) (n : Int) (hi : i < xs.length) : setR (xs.map (AV.int .i64)) i [I n] = (xs.set i n).map (AV.int .i64) := by
  unfold setR
  rw [List.map_set, List.set_eq_take_append_cons_drop, if_pos (by simpa using hi)]
  simp

/-- Two lists of integers of one's own, made one after the other. -/
structure Two (h0 h : AH) (S T : List Int) : Prop where
  KB : KeepB h0.next h0 h
  s : h.at h0.next = some (.cells (S.map (AV.int .i64)) h0.next)
  t : h.at (h0.next + 1) = some (.cells (T.map (AV.int .i64)) (h0.next + 1))

theorem Two.start {h0 : AH} (hw : WF h0) (S T : List Int) : Two h0 ((h0.new (S.map (AV.int .i64))).new (T.map (AV.int .i64))) S T := by
  have k1 := Kept.new hw (S.map (AV.int .i64))
  have k2 := Kept.new k1.wf (T.map (AV.int .i64))
  exact ⟨(k1.trans k2).keepB, k2.keep _ _ (at_new_self _ _), at_new_self _ _⟩

section
variable {h0 : AH} {S T : List Int} {N : Nat}
theorem Two.keep (F : Two h0 h S T) (k : Kept h h') : Two h0 h' S T := ⟨F.KB.trans k.keepB, k.keep _ _ F.s, k.keep _ _ F.t⟩
theorem Two.intsS (F : Two h0 h S T) (hN : S.length = N) : Ints h (.sl h0.next 0 N N 1 true) S := by
  subst hN; exact .inr ⟨_, _, _, _, _, _, rfl, F.s, by simp, by rw [List.drop_zero, List.take_of_length_le (by simp)], Nat.le_refl _⟩
theorem Two.intsT (F : Two h0 h S T) (hN : T.length = N) : Ints h (.sl (h0.next + 1) 0 N N 1 true) T := by
  subst hN; exact .inr ⟨_, _, _, _, _, _, rfl, F.t, by simp, by rw [List.drop_zero, List.take_of_length_le (by simp)], Nat.le_refl _⟩
theorem Two.setS {t : TypeId} (hz : szA P t = some 1) (hw : WF h0) (F : Two h0 h S T) {i : Nat} (hi : i < S.length) (x : Int) : ∃ h', storeA P t (addrOf (.sl h0.next 0 N N 1 true) i) (I x) h = some h' ∧ Two h0 h' (S.set i x) T := by
  obtain ⟨h', k1, k2, k3, k4, k5⟩ := store_at (P := P) (M := h0.next) (off := 0 + i * 1) (y := I x) hz F.KB.wf F.s (Nat.le_refl _) hw.pos (by simpa using hi) rfl rfl
  refine ⟨h', k1, F.KB.trans k2, ?_, k5 _ _ F.t (by simp [Blk.fam?])⟩
  rw [k3, show 0 + i * 1 = i by omega, setR_ints _ _ _ hi]
theorem Two.setT {t : TypeId} (hz : szA P t = some 1) (hw : WF h0) (F : Two h0 h S T) {i : Nat} (hi : i < T.length) (x : Int) : ∃ h', storeA P t (addrOf (.sl (h0.next + 1) 0 N N 1 true) i) (I x) h = some h' ∧ Two h0 h' S (T.set i x) := by
  obtain ⟨h', k1, k2, k3, k4, k5⟩ := store_at (P := P) (M := h0.next) (off := 0 + i * 1) (y := I x) hz F.KB.wf F.t (by omega) hw.pos (by simpa using hi) rfl rfl
  refine ⟨h', k1, F.KB.trans k2, k5 _ _ F.s (by simp [Blk.fam?]), ?_⟩
  rw [k3, show 0 + i * 1 = i by omega, setR_ints _ _ _ hi]
end

theorem OBx.load_all {b n : Nat} {cs : List AV} {t : TypeId} (hb : OBx M h b cs) (ht : shapeA P t = some (some n)) (hl : cs.length = n) : loadA P t (.ptr b 0) h = some (.agg cs) := by
  rw [hb.loadN ht (by omega), List.drop_zero, List.take_of_length_le (by omega)]
end
end
end Go.Proofs.Ytllldiokcnheiaa.Ab

namespace Go.Proofs.Ytllldiokcnheiaa.Ab
open Go.ChangeShapes Go.WideShapes Go.RowKit
noncomputable section

/-- Is a type made of bytes alone? -/
def u8s (P : Program) : Nat → TypeId → Bool
  | 0, _ => false
  | n + 1, t => match P.underlying t with
    | some (.int .u8) => true
    | some (.struct fs) => (fs.toList.all fun f => u8s P n f.type) && (List.range (P.cellsOf t)).all fun i => fs.toList.any fun f => Nat.ble f.offset i && Nat.ble (i + 1) (f.offset + P.cellsOf f.type)
    | some (.array k e) => u8s P n e && Nat.beq (P.cellsOf t) (k * P.cellsOf e)
    | _ => false

section
variable {H : Type} {enc : TypeId × Value → H} {P : Program} {w : World} {base : Nat} {spare : Nat → Bool} {held : Bool}

theorem mapM_of_get {α β : Type} {g : α → Option β} : ∀ {l : List α} {xs : List β}, l.length = xs.length → (∀ (i : Nat) (a : α), l[i]? = some a → g a = xs[i]?) → l.mapM g = some xs
  | [], [], _, _ => rfl
  | [], _ :: _, h, _ => by simp at h
  | _ :: _, [], h, _ => by simp at h
  | a :: l, x :: xs, h, k => by
    have h0 := k 0 a rfl
    have ih := mapM_of_get (l := l) (xs := xs) (by simpa using h) fun i b hb => k (i + 1) b (by simpa using hb)
    rw [List.mapM_cons, h0]
    simp [ih]

theorem trod_array_mk {t e : TypeId} {n k : Nat} {cs : List Value} {xs : List (DataW H × List MemPlace)} (ht : P.underlying t = some (.array k e)) (hl : cs.length = P.cellsOf t)
    (hp : (List.range k).mapM (fun i => DataW.trod enc P w base spare held n e ((cs.drop (i * P.cellsOf e)).take (P.cellsOf e))) = some xs) :
    DataW.trod enc P w base spare held (n + 1) t cs = some (.agg (xs.map (·.1)), xs.flatMap (·.2)) := by
  unfold DataW.trod
  rw [ht]
  split <;> simp_all

/-- What is read of bytes alone. -/
def U8T (enc : TypeId × Value → H) (P : Program) (fuel : Nat) (t : TypeId) (cs : List Value) (x : DataW H × List MemPlace) : Prop :=
  x.2 = [] ∧ (∀ c ∈ cs, ∃ z : Nat, z < 256 ∧ c = .int .u8 (z : Int)) ∧ ∀ (w' : World) (base' : Nat) (spare' : Nat → Bool) (held' : Bool), DataW.trod enc P w' base' spare' held' fuel t cs = some x

theorem u8s_trod : ∀ (n : Nat) (t : TypeId), u8s P n t = true → ∀ {fuel : Nat} {cs : List Value} {x : DataW H × List MemPlace}, DataW.trod enc P w base spare held fuel t cs = some x → U8T enc P fuel t cs x
  | 0, t, h, fuel, cs, x, hx => by cases h
  | n + 1, t, h, fuel, cs, x, hx => by
    unfold u8s at h
    split at h
    · rename_i hu
      obtain ⟨z, rfl, rfl, hz⟩ := DataW.trod_int hu hx
      obtain ⟨b1, b2⟩ := bounds_u8 hz
      refine ⟨rfl, fun c hc => ⟨z.toNat, by omega, ?_⟩, fun w' base' spare' held' => ?_⟩
      · have : c = .int .u8 z := by simpa using hc
        rw [this, Int.toNat_of_nonneg b1]
      · cases fuel with
        | zero => simp [DataW.trod] at hx
        | succ m => exact trod_int_mk m hu hz
    · rename_i fs hu
      simp only [Bool.and_eq_true, List.all_eq_true, List.any_eq_true] at h
      obtain ⟨xs, m, rfl, rfl, hl, hlen, hf⟩ := DataW.trod_struct hu hx
      have key : ∀ (i : Nat) (f : Field), fs[i]? = some f → ∃ y, xs[i]? = some y ∧ U8T enc P m f.type ((cs.drop f.offset).take (P.cellsOf f.type)) y := fun i f hi => by
        have hlt : i < xs.length := by rw [hlen]; exact (Array.getElem?_eq_some_iff.1 hi).1
        have hy : xs[i]? = some xs[i] := List.getElem?_eq_getElem hlt
        have h1 := hf i f hi
        rw [hy] at h1
        exact ⟨xs[i], hy, u8s_trod n f.type (h.1 f (by simpa using Array.mem_of_getElem? hi)) h1⟩
      refine ⟨?_, fun c hc => ?_, fun w' base' spare' held' => ?_⟩
      · show xs.flatMap (·.2) = []
        rw [List.flatMap_eq_nil_iff]
        intro y hy
        obtain ⟨i, hi, rfl⟩ := List.getElem_of_mem hy
        have hi' : i < fs.size := by rw [← hlen]; exact hi
        obtain ⟨y', hy', h2, _⟩ := key i fs[i] (by simp [hi'])
        rw [List.getElem?_eq_getElem hi] at hy'
        cases hy'
        exact h2
      · obtain ⟨i, hi, rfl⟩ := List.getElem_of_mem hc
        obtain ⟨f, hfm, hcov⟩ := h.2 i (by rw [← hl]; simpa using hi)
        simp only [Nat.ble_eq] at hcov
        obtain ⟨j, hj, hjf⟩ := List.getElem_of_mem hfm
        obtain ⟨y, hy, _, h3, _⟩ := key j f (by simp at hj; rw [Array.getElem?_eq_getElem hj]; simpa using hjf)
        refine h3 _ ?_
        rw [List.mem_iff_getElem?]
        refine ⟨i - f.offset, ?_⟩
        rw [List.getElem?_take, if_pos (by omega), List.getElem?_drop, show f.offset + (i - f.offset) = i by omega, List.getElem?_eq_getElem hi]
      · refine trod_struct_mk hu hl ?_
        refine mapM_of_get (by simpa using hlen.symm) fun i f hi => ?_
        obtain ⟨y, hy, _, _, h4⟩ := key i f (by simpa using hi)
        rw [h4, hy]
    · rename_i k e hu
      simp only [Bool.and_eq_true] at h
      have hce : P.cellsOf t = k * P.cellsOf e := Nat.eq_of_beq_eq_true h.2
      obtain ⟨xs, m, rfl, rfl, hl, hlen, hf⟩ := DataW.trod_array hu hx
      have key : ∀ (i : Nat), i < k → ∃ y, xs[i]? = some y ∧ U8T enc P m e ((cs.drop (i * P.cellsOf e)).take (P.cellsOf e)) y := fun i hi => by
        have hlt : i < xs.length := by rw [hlen]; exact hi
        have hy : xs[i]? = some xs[i] := List.getElem?_eq_getElem hlt
        have h1 := hf i hi
        rw [hy] at h1
        exact ⟨xs[i], hy, u8s_trod n e h.1 h1⟩
      refine ⟨?_, fun c hc => ?_, fun w' base' spare' held' => ?_⟩
      · show xs.flatMap (·.2) = []
        rw [List.flatMap_eq_nil_iff]
        intro y hy
        obtain ⟨i, hi, rfl⟩ := List.getElem_of_mem hy
        obtain ⟨y', hy', h2, _⟩ := key i (by rw [← hlen]; exact hi)
        rw [List.getElem?_eq_getElem hi] at hy'
        cases hy'
        exact h2
      · obtain ⟨i, hi, rfl⟩ := List.getElem_of_mem hc
        have hlt : i < k * P.cellsOf e := by rw [← hce, ← hl]; exact hi
        have hpos : 0 < P.cellsOf e := by
          rcases Nat.eq_zero_or_pos (P.cellsOf e) with h0 | h0
          · rw [h0] at hlt; omega
          · exact h0
        have hq : i / P.cellsOf e < k := (Nat.div_lt_iff_lt_mul hpos).2 hlt
        have hdm := Nat.div_add_mod i (P.cellsOf e)
        have hm := Nat.mod_lt i hpos
        obtain ⟨y, hy, _, h3, _⟩ := key (i / P.cellsOf e) hq
        refine h3 _ ?_
        rw [List.mem_iff_getElem?]
        refine ⟨i % P.cellsOf e, ?_⟩
        rw [List.getElem?_take, if_pos hm, List.getElem?_drop, Nat.mul_comm, hdm, List.getElem?_eq_getElem hi]
      · refine trod_array_mk hu hl ?_
        refine mapM_of_get (by simpa using hlen.symm) fun i a hi => ?_
        have hia : a = i ∧ i < k := by
          obtain ⟨h1, h2⟩ := List.getElem?_eq_some_iff.1 hi
          simp at h1 h2
          exact ⟨h2.symm, h1⟩
        obtain ⟨y, hy, _, _, h4⟩ := key i hia.2
        rw [hia.1, h4, hy]
    · cases h

/-- Numbers as cells of bytes. -/
def u8V (zs : List Nat) : List Value := zs.map fun z : Nat => Value.int .u8 (z : Int)
def u8A (zs : List Nat) : List AV := zs.map fun z : Nat => AV.int .u8 (z : Int)
theorem u8_rel (μ : Places) (zs : List Nat) : VRels μ (u8A zs) (u8V zs) := VRels.map zs fun z _ => .int _ _

theorem u8_nums : ∀ {cs : List Value}, (∀ c ∈ cs, ∃ z : Nat, z < 256 ∧ c = .int .u8 (z : Int)) → ∃ zs : List Nat, cs = u8V zs ∧ ∀ z ∈ zs, z < 256
  | [], _ => ⟨[], rfl, fun _ h => by cases h⟩
  | c :: cs, h => by
    obtain ⟨z, hz, rfl⟩ := h c (by simp)
    obtain ⟨zs, rfl, hzs⟩ := u8_nums (cs := cs) fun d hd => h d (by simp [hd])
    refine ⟨z :: zs, rfl, fun y hy => ?_⟩
    rcases List.mem_cons.1 hy with rfl | hy
    · exact hz
    · exact hzs y hy

theorem okWide_arr {r : Reach} {t e : TypeId} {k : Nat} {v : Value} {b : Nat} (ht : P.underlying t = some (.array k e)) (h : Value.okWide P w r b t v) : ∃ cs, v = .agg cs ∧ cs.size = P.cellsOf t := by
  simp only [Value.okWide, ht] at h
  obtain ⟨cs, h1, h2, _⟩ := h
  exact ⟨cs, h1, h2⟩

/-- An argument of parts, all bytes: what it is, and that it reads so in every world. -/
theorem open_parts {t : TypeId} {v : Value} {d : DataW H} {p : List MemPlace} {n N : Nat} (hu : u8s P n t = true) (hN : P.cellsOf t = N) (hv : ∃ cs, v = .agg cs ∧ cs.size = P.cellsOf t) (h : DataW.Trod enc P w base spare held t v d p) :
    ∃ zs : List Nat, v = .agg (u8V zs).toArray ∧ zs.length = N ∧ (∀ z ∈ zs, z < 256) ∧ p = [] ∧ ∀ (w' : World) (base' : Nat) (spare' : Nat → Bool) (held' : Bool), DataW.Trod enc P w' base' spare' held' t v d [] := by
  obtain ⟨cs, rfl, hsz⟩ := hv
  obtain ⟨fuel, hf⟩ := h
  obtain ⟨h1, h2, h3⟩ := u8s_trod n t hu hf
  obtain ⟨zs, hz, hzs⟩ := u8_nums h2
  have hcs : cs = (u8V zs).toArray := by
    have : cs.toList = u8V zs := hz
    rw [← this]
  have hp : p = [] := h1
  subst hp
  refine ⟨zs, by rw [hcs], ?_, hzs, rfl, fun w' base' spare' held' => ⟨fuel, h3 w' base' spare' held'⟩⟩
  have : cs.size = (u8V zs).length := by rw [hcs]; simp
  rw [hsz, hN] at this
  simpa [u8V] using this.symm

/-- A byte. -/
theorem open_byte {r : Reach} {b : Nat} {t : TypeId} {v : Value} {d : DataW H} {p : List MemPlace} (hu : P.underlying t = some (.int .u8)) (hv : Value.okWide P w r b t v) (h : DataW.Trod enc P w base spare held t v d p) :
    ∃ z : Nat, v = .int .u8 (z : Int) ∧ z < 256 ∧ p = [] ∧ ∀ (w' : World) (base' : Nat) (spare' : Nat → Bool) (held' : Bool), DataW.Trod enc P w' base' spare' held' t v d [] := by
  obtain ⟨z, rfl⟩ := okWide_int hu hv
  obtain ⟨fuel, hf⟩ := h
  obtain ⟨h1, h2, h3⟩ := u8s_trod 1 t (by unfold u8s; rw [hu]) hf
  obtain ⟨z', hz, e⟩ := h2 (.int .u8 z) (by simp [Value.cells])
  have hp : p = [] := h1
  subst hp
  cases e
  exact ⟨z', rfl, hz, rfl, fun w' base' spare' held' => ⟨fuel, h3 w' base' spare' held'⟩⟩
end

/-- From a symbolic run that ends with true to the model's call. -/
theorem calls_of_cl {P : Program} {O : CallF} (hO : CallOk P 0 O) (hOn : CallNext O) (hm : P.follows .mixedOrders = true) (hnm : Named P) {f : FuncId} {args : List AV} {vs : List Value}
    (hc : Cl P O 0 f args (AH.none 1) (fun r _ => r = .bool true)) (hv : VRels (fun _ => none) args vs) (w : World) : Calls P f vs.toArray w fun e w' => e = .returned (.bool true) ∧ Below w.heap.size w w' := by
  obtain ⟨n, v, h', he, rfl⟩ := hc
  have hok := call_ok hO hnm (sound_all (G := 0) hO hOn draw_ok hm hnm n).1
  obtain ⟨h1, h2⟩ := hok f args (AH.none 1) (.bool true) h' he (fun _ => none) w vs (RelH.none (by omega)) hv ⟨fun g hg => by omega, 0, fun _ _ => rfl⟩ (fun _ _ _ => rfl)
  refine Calls.mono h2 fun e w' ⟨ν, u, h3, h4, _, h6⟩ => ?_
  cases h4
  exact ⟨h3, h6.below⟩

theorem WF.none : WF (AH.none 1) := by
  have h0 : ∀ b, (AH.none 1).at b = Option.none := fun b => by
    cases h : (AH.none 1).at b with
    | none => rfl
    | some B => exact (none_at h).elim
  refine ⟨by show 0 < 1; omega, fun b B hb => ?_, fun b cs f hb => ?_, fun b cs f hb => ?_, fun f l m hl => ?_⟩
  · rw [h0] at hb; cases hb
  · rw [h0] at hb; cases hb
  · rw [h0] at hb; cases hb
  · cases hl
end
end Go.Proofs.Ytllldiokcnheiaa.Ab
