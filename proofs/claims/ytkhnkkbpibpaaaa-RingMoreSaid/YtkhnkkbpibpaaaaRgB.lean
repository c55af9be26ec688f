/- The ring layer's table in memory, and its walk: it holds what the plain table says. -/
import Derived.Test.YtkhnkkbpibpaaaaSy2
import Derived.Test.YtkhnkkbpibpaaaaRgA

namespace Go.Proofs.Ytkhnkkbpibpaaaa.Rg
open Go.Proofs Go.Proofs.Ytkhnkkbpibpaaaa.Ab
noncomputable section

abbrev toPr (x : Find) : Pr := ((x.1 : Int), (x.2 : Int))
def prs (S : List Find) : List Pr := S.map toPr
theorem prs_length (S : List Find) : (prs S).length = S.length := by simp [prs]
theorem prs_len_eq {S : List Find} : ((prs S).length : Int) = S.length := by simp [prs]
theorem prs_get {S : List Find} {i : Nat} (hi : i < S.length) : (prs S)[i]'(by simpa [prs] using hi) = toPr S[i] := by simp [prs]

theorem prs_at {h : AH} {v : AV} {S : List Find} (p : Pairs h v (prs S)) {i : Nat} (hi : i < S.length) : loadA Try.prog 44 (addrOf v i) h = some (.agg [I (S[i].1 : Nat), I (S[i].2 : Nat)]) := by
  have := Pairs.at p sh44 (i := i) (by simpa [prs] using hi)
  rw [prs_get hi] at this
  exact this

/-- How often a find is there. -/
def cnt (S : List Find) (i j : Nat) : Nat := S.countP fun x => x.1 == i && x.2 == j

theorem cnt_le (S : List Find) (i j : Nat) : cnt S i j ≤ S.length := List.countP_le_length

theorem cnt_take {S : List Find} {k : Nat} (hk : k < S.length) (i j : Nat) : cnt (S.take (k + 1)) i j = if i = S[k].1 ∧ j = S[k].2 then cnt (S.take k) i j + 1 else cnt (S.take k) i j := by
  unfold cnt
  rw [List.take_succ_eq_append_getElem hk, List.countP_append, List.countP_cons, List.countP_nil]
  by_cases h : i = S[k].1 ∧ j = S[k].2
  · rw [if_pos h, if_pos (by simp [h.1, h.2])]
  · have hh : ¬ ((S[k].1 == i && S[k].2 == j) = true) := by
      intro hh
      simp at hh
      exact h ⟨hh.1.symm, hh.2.symm⟩
    rw [if_neg h, if_neg hh]
    rfl

theorem costS_cost (n : Nat) (S : List Find) (f d : Nat) : costS (cnt S) f d n = cost n S f d := by
  unfold cost
  induction n with
  | zero => 
    symm
    rw [List.countP_eq_zero.2]
    · rfl
    · intro x hx; simp
  | succ n ih =>
    unfold costS
    rw [ih]
    have key : ∀ (S : List Find), S.countP (fun x => x.1 == f && d.testBit x.2 && decide (x.2 < n)) + (if d.testBit n = true then cnt S f n else 0) = S.countP (fun x => x.1 == f && d.testBit x.2 && decide (x.2 < n + 1)) := by
      intro S
      induction S with
      | nil => simp [cnt]
      | cons x S ihS =>
        unfold cnt at ihS ⊢
        rw [List.countP_cons, List.countP_cons, List.countP_cons]
        by_cases h1 : x.1 = f
        · by_cases h2 : x.2 = n
          · subst h2
            by_cases h3 : d.testBit x.2 = true
            · simp [h1, h3] at ihS ⊢; omega
            · simp [h1, h3] at ihS ⊢; omega
          · have e : decide (x.2 < n + 1) = decide (x.2 < n) := by
              apply decide_eq_decide.2; omega
            rw [e]
            have e2 : (x.2 == n) = false := by simpa using h2
            rw [e2]
            simp only [Bool.and_false, Bool.false_eq_true, if_false, Nat.add_zero]
            omega
        · simp [h1] at ihS ⊢; omega
    exact key S

def updV (V : Nat → Nat × Nat) (d : Nat) (a : Nat × Nat) : Nat → Nat × Nat := fun k => if k = d then a else V k
theorem updV_self (V : Nat → Nat × Nat) (d : Nat) (a : Nat × Nat) : updV V d a d = a := if_pos rfl
theorem updV_ne {V : Nat → Nat × Nat} {d k : Nat} {a : Nat × Nat} (h : k ≠ d) : updV V d a k = V k := if_neg h
theorem updV_upd (V : Nat → Nat × Nat) (d : Nat) (a b : Nat × Nat) : updV (updV V d a) d b = updV V d b := by
  funext k; unfold updV; split <;> rfl

def row (N : Nat) (g : Nat → Nat) : List AV := (List.range N).map fun d => I (g d)
theorem row_length (N : Nat) (g : Nat → Nat) : (row N g).length = N := by simp [row]
theorem row_get {N d : Nat} {g : Nat → Nat} (hd : d < N) : (row N g)[d]? = some (I (g d)) := by simp [row, hd]
theorem row_set {N d x : Nat} {g : Nat → Nat} (hd : d < N) : setR (row N g) d [I x] = row N (fun k => if k = d then x else g k) := by
  apply List.ext_getElem?
  intro i
  unfold setR
  have hl : (row N g).length = N := row_length N g
  by_cases h1 : i < d
  · rw [List.append_assoc, List.getElem?_append_left (by simp [hl]; omega), List.getElem?_take, if_pos h1, row_get (by omega), row_get (by omega)]
    rw [if_neg (by omega)]
  · by_cases h2 : i = d
    · subst h2
      rw [List.append_assoc, List.getElem?_append_right (by simp [hl]; omega)]
      simp [hl, Nat.min_eq_left (Nat.le_of_lt hd)]
      rw [row_get hd]; simp
    · rw [List.getElem?_append_right (by simp [hl]; omega)]
      simp [hl, Nat.min_eq_left (Nat.le_of_lt hd)]
      rw [show d + 1 + (i - (d + 1)) = i by omega]
      by_cases h3 : i < N
      · rw [row_get h3, row_get h3, if_neg h2]
      · rw [List.getElem?_eq_none (by rw [row_length]; omega), List.getElem?_eq_none (by rw [row_length]; omega)]

theorem tab_fw {n : Nat} {later : Nat → Nat → Nat} {may fw wy : AV} : (tabCells n later may fw wy)[0 + 38]? = some fw := by simp [tabCells]
theorem tab_wy {n : Nat} {later : Nat → Nat → Nat} {may fw wy : AV} : (tabCells n later may fw wy)[0 + 39]? = some wy := by simp [tabCells]
theorem tab_len {n : Nat} {later : Nat → Nat → Nat} {may fw wy : AV} : (tabCells n later may fw wy).length = 40 := by simp [tabCells]

def updL (later : Nat → Nat → Nat) (a b x : Nat) : Nat → Nat → Nat := fun i j => if i = a ∧ j = b then x else later i j

theorem tab_set {n a b x : Nat} {later : Nat → Nat → Nat} {may fw wy : AV} (ha : a < 6) (hb : b < 6) : setR (tabCells n later may fw wy) (0 + 1 + a * 6 + b * 1) [I x] = tabCells n (updL later a b x) may fw wy := by
  have e : 0 + 1 + a * 6 + b * 1 = (a * 6 + b) + 1 := by omega
  rw [e]
  generalize hk : a * 6 + b = k
  have hk6 : k < 36 := by omega
  have hr := row_set (N := 36) (d := k) (x := x) (g := fun k => later (k / 6) (k % 6)) hk6
  have e2 : (fun j => if j = k then x else later (j / 6) (j % 6)) = fun j => (updL later a b x) (j / 6) (j % 6) := by
    funext j
    unfold updL
    by_cases h : j = k
    · subst h
      rw [if_pos rfl, if_pos ⟨by omega, by omega⟩]
    · rw [if_neg h, if_neg (fun h' => h (by omega))]
  rw [e2] at hr
  unfold row at hr
  unfold tabCells
  rw [← hr]
  unfold setR
  simp only [List.length_cons, List.length_nil, List.cons_append, List.take_succ_cons, List.drop_succ_cons, List.length_map, List.length_range]
  rw [List.take_append_of_le_length (by simp; omega), List.drop_append_of_le_length (by simp; omega)]
  simp

/-- The two slices of a table that is made as the first thing behind M blocks. -/
def fwS (M N : Nat) : AV := .sl M 0 N N 1 true
def wyS (M N : Nat) : AV := .sl (M + 1) 0 N N 1 true

/-- The table in memory. -/
structure FI (h0 : AH) (n : Nat) (may : AV) (h : AH) (later : Nat → Nat → Nat) (V : Nat → Nat × Nat) : Prop where
  KB : KeepB h0.next h0 h
  tb : h.at (h0.next + 2) = some (.cells (tabCells n later may (fwS h0.next (2 ^ n)) (wyS h0.next (2 ^ n))) (h0.next + 2))
  f : h.at h0.next = some (.cells (row (2 ^ n) fun d => (V d).1) h0.next)
  w : h.at (h0.next + 1) = some (.cells (row (2 ^ n) fun d => (V d).2) (h0.next + 1))

section
variable {h0 h h' : AH} {n : Nat} {may : AV} {later : Nat → Nat → Nat} {V : Nat → Nat × Nat} {d x a b : Nat}

theorem FI.keep (F : FI h0 n may h later V) (k : Kept h h') : FI h0 n may h' later V :=
  ⟨F.KB.trans k.keepB, k.keep _ _ F.tb, k.keep _ _ F.f, k.keep _ _ F.w⟩

theorem FI.box (F : FI h0 n may h later V) : OBx h0.next h (h0.next + 2) (tabCells n later may (fwS h0.next (2 ^ n)) (wyS h0.next (2 ^ n))) := ⟨_, F.tb, by omega⟩
theorem FI.ldF (F : FI h0 n may h later V) : loadA Try.prog 23 (.ptr (h0.next + 2) (0 + 38)) h = some (fwS h0.next (2 ^ n)) := F.box.load1 sh23 tab_fw
theorem FI.ldW (F : FI h0 n may h later V) : loadA Try.prog 23 (.ptr (h0.next + 2) (0 + 39)) h = some (wyS h0.next (2 ^ n)) := F.box.load1 sh23 tab_wy
theorem FI.slF (F : FI h0 n may h later V) : Sl h (fwS h0.next (2 ^ n)) 1 (2 ^ n) (row (2 ^ n) fun d => (V d).1) :=
  .inr ⟨_, _, _, _, _, _, rfl, F.f, by rw [row_length]; omega, by rw [List.drop_zero, List.take_of_length_le (by rw [row_length]; omega)], Nat.le_refl _⟩
theorem FI.slW (F : FI h0 n may h later V) : Sl h (wyS h0.next (2 ^ n)) 1 (2 ^ n) (row (2 ^ n) fun d => (V d).2) :=
  .inr ⟨_, _, _, _, _, _, rfl, F.w, by rw [row_length]; omega, by rw [List.drop_zero, List.take_of_length_le (by rw [row_length]; omega)], Nat.le_refl _⟩
theorem FI.adF (F : FI h0 n may h later V) (hd : d < 2 ^ n) : indexAddrA Try.prog 23 (fwS h0.next (2 ^ n)) (I (d : Int)) = some (addrOf (fwS h0.next (2 ^ n)) d) := F.slF.addr u23 sz3 hd
theorem FI.adW (F : FI h0 n may h later V) (hd : d < 2 ^ n) : indexAddrA Try.prog 23 (wyS h0.next (2 ^ n)) (I (d : Int)) = some (addrOf (wyS h0.next (2 ^ n)) d) := F.slW.addr u23 sz3 hd
theorem FI.getF (F : FI h0 n may h later V) (hd : d < 2 ^ n) : loadA Try.prog 3 (addrOf (fwS h0.next (2 ^ n)) d) h = some (I ((V d).1 : Nat)) := F.slF.cell sh3 (row_get hd)
theorem FI.getW (F : FI h0 n may h later V) (hd : d < 2 ^ n) : loadA Try.prog 3 (addrOf (wyS h0.next (2 ^ n)) d) h = some (I ((V d).2 : Nat)) := F.slW.cell sh3 (row_get hd)

theorem store_in {M b off f : Nat} {cs : List AV} {y : AV} (hw : WF h) (hb : h.at b = some (.cells cs f)) (hM : M ≤ f) (h0 : 0 < M) (hle : off < cs.length) (hc : cellsA y = [y]) (hfl : y.flat = true) :
    ∃ h', storeA Try.prog 3 (.ptr b off) y h = some h' ∧ KeepB M h h' ∧ h'.at b = some (.cells (setR cs off [y]) f) ∧ h'.next = h.next ∧ (∀ c C, h.at c = some C → C.fam? ≠ some f → h'.at c = some C) := by
  obtain ⟨h', k1, k2, k3, k4, k5, _⟩ := storeL_own (M := M) hw (off := off) (vs := [y]) hb hM h0 (show off + [y].length ≤ _ from hle) (by unfold allFlat; rw [hfl]; rfl)
  refine ⟨h', ?_, k2, k3, k4, k5⟩
  unfold storeA
  dsimp only
  rw [sz3, hc]
  exact k1

theorem FI.setF (hw : WF h0) (F : FI h0 n may h later V) (hd : d < 2 ^ n) (x : Nat) : ∃ h', storeA Try.prog 3 (addrOf (fwS h0.next (2 ^ n)) d) (I (x : Int)) h = some h' ∧ FI h0 n may h' later (updV V d (x, (V d).2)) := by
  obtain ⟨h', k1, k2, k3, k4, k5⟩ := store_in (M := h0.next) (off := 0 + d * 1) (y := I (x : Int)) F.KB.wf F.f (Nat.le_refl _) hw.pos (by rw [row_length]; omega) rfl rfl
  refine ⟨h', k1, F.KB.trans k2, k5 _ _ F.tb (by simp [Blk.fam?]), ?_, ?_⟩
  · rw [k3, show 0 + d * 1 = d by omega, row_set hd]
    congr 3; funext k; unfold updV; split <;> rfl
  · rw [k5 _ _ F.w (by simp [Blk.fam?])]
    congr 3; funext k; unfold updV; split <;> simp_all
theorem FI.setW (hw : WF h0) (F : FI h0 n may h later V) (hd : d < 2 ^ n) (x : Nat) : ∃ h', storeA Try.prog 3 (addrOf (wyS h0.next (2 ^ n)) d) (I (x : Int)) h = some h' ∧ FI h0 n may h' later (updV V d ((V d).1, x)) := by
  obtain ⟨h', k1, k2, k3, k4, k5⟩ := store_in (M := h0.next) (off := 0 + d * 1) (y := I (x : Int)) F.KB.wf F.w (by omega) hw.pos (by rw [row_length]; omega) rfl rfl
  refine ⟨h', k1, F.KB.trans k2, k5 _ _ F.tb (by simp [Blk.fam?]), ?_, ?_⟩
  · rw [k5 _ _ F.f (by simp [Blk.fam?])]
    congr 3; funext k; unfold updV; split <;> simp_all
  · rw [k3, show 0 + d * 1 = d by omega, row_set hd]
    congr 3; funext k; unfold updV; split <;> rfl
theorem FI.bump (hw : WF h0) (F : FI h0 n may h later V) (ha : a < 6) (hb : b < 6) (x : Nat) : ∃ h', storeA Try.prog 3 (.ptr (h0.next + 2) (0 + 1 + a * 6 + b * 1)) (I (x : Int)) h = some h' ∧ FI h0 n may h' (updL later a b x) V := by
  obtain ⟨h', k1, k2, k3, k4, k5⟩ := store_in (M := h0.next) (off := 0 + 1 + a * 6 + b * 1) (y := I (x : Int)) F.KB.wf F.tb (by omega) hw.pos (by rw [tab_len]; omega) rfl rfl
  refine ⟨h', k1, F.KB.trans k2, ?_, k5 _ _ F.f (by simp [Blk.fam?]), k5 _ _ F.w (by simp [Blk.fam?])⟩
  rw [k3, tab_set ha hb]
end

/-! ### Bounds of the table -/

/-- How many forms are not in a set. -/
def dep : Nat → Nat → Nat
  | 0, _ => 0
  | n + 1, d => dep n d + if d.testBit n = true then 0 else 1

theorem dep_or {d f : Nat} (hb : d.testBit f = false) : ∀ n, dep n (d ||| 1 <<< f) + (if f < n then 1 else 0) = dep n d
  | 0 => rfl
  | n + 1 => by
    have ih := dep_or hb n
    unfold dep
    rw [testBit_or_shift]
    by_cases e : n = f
    · subst e
      rw [if_neg (by omega)] at ih
      simp [hb]; omega
    · simp only [e, decide_false, Bool.or_false]
      have e3 : (if f < n + 1 then 1 else 0) = (if f < n then 1 else 0 : Nat) := by
        by_cases h : f < n
        · rw [if_pos h, if_pos (by omega)]
        · rw [if_neg h, if_neg (by omega)]
      rw [e3]
      omega

theorem dep_le : ∀ n d, dep n d ≤ n
  | 0, _ => Nat.le_refl _
  | n + 1, d => by unfold dep; have := dep_le n d; split <;> omega

theorem stepV_ways {n : Nat} {c : Nat → Nat → Nat} {may : Nat → Nat → Bool} {V : Nat → Nat × Nat} {d B : Nat} : ∀ {m : Nat}, (∀ f, f < m → d ||| 1 <<< f ≠ d → (V (d ||| 1 <<< f)).2 ≤ B) → (stepV n c may V d m).2 ≤ m * B
  | 0, _ => by simp [stepV]
  | f + 1, h => by
    have ih := stepV_ways (n := n) (c := c) (may := may) (V := V) (d := d) (B := B) (m := f) fun g hg => h g (by omega)
    have e : (f + 1) * B = f * B + B := by rw [Nat.add_mul]; omega
    unfold stepV
    dsimp only
    split
    · omega
    · rename_i hs
      have hB := h f (by omega) (fun e => hs (.inl e))
      split
      · simp only [if_true]; omega
      · split
        · simp only; omega
        · omega

theorem tabV_ways {n : Nat} {c : Nat → Nat → Nat} {may : Nat → Nat → Bool} (hn : n ≤ 6) : ∀ d, d ≤ 2 ^ n - 1 → (tabV n c may d).2 ≤ 6 ^ (dep n d) := by
  refine down (by rw [tabV_all]; exact Nat.one_le_pow _ _ (by omega)) fun d hd ih => ?_
  rw [tabV_step hd]
  by_cases hdep : dep n d = 0
  · -- all forms are in it
    have hz : ∀ m, m ≤ n → (∀ f, f < m → d.testBit f = true) := by
      have key : ∀ m, dep m d = 0 → ∀ f, f < m → d.testBit f = true := by
        intro m
        induction m with
        | zero => intro _ f hf; omega
        | succ m ihm =>
          intro h0 f hf
          unfold dep at h0
          by_cases e : f = m
          · subst e
            cases hb : d.testBit f
            · rw [hb] at h0; simp at h0
            · rfl
          · exact ihm (by omega) f (by omega)
      intro m hm f hf
      exact key n hdep f (by omega)
    have := stepV_ways (n := n) (c := c) (may := may) (V := tabV n c may) (d := d) (B := 0) (m := n) fun f hf hne => by
      have := or_ne_iff.1 hne
      rw [hz n (Nat.le_refl _) f hf] at this; cases this
    rw [Nat.mul_zero] at this
    exact Nat.le_trans this (Nat.zero_le _)
  · obtain ⟨k, hk⟩ : ∃ k, dep n d = k + 1 := ⟨dep n d - 1, by omega⟩
    have h1 := stepV_ways (n := n) (c := c) (may := may) (V := tabV n c may) (d := d) (B := 6 ^ k) (m := n) fun f hf hne => by
      have h2 := ih _ (or_gt hne) (or_le (by omega) hf)
      have h3 := dep_or (or_ne_iff.1 hne) n
      rw [if_pos hf] at h3
      rw [show dep n (d ||| 1 <<< f) = k by omega] at h2
      exact h2
    rw [hk, Nat.pow_succ]
    have : n * 6 ^ k ≤ 6 * 6 ^ k := Nat.mul_le_mul_right _ hn
    omega

theorem ways_le {n : Nat} {c : Nat → Nat → Nat} {may : Nat → Nat → Bool} (hn : n ≤ 6) {d : Nat} (hd : d ≤ 2 ^ n - 1) : (tabV n c may d).2 ≤ 46656 := by
  have h1 := tabV_ways (n := n) (c := c) (may := may) hn d hd
  have h2 := dep_le n d
  have h3 : 6 ^ dep n d ≤ 6 ^ 6 := Nat.pow_le_pow_right (by omega) (by omega)
  exact Nat.le_trans h1 (Nat.le_trans h3 (by decide))

theorem stepV_skip {n : Nat} {c : Nat → Nat → Nat} {may : Nat → Nat → Bool} {V : Nat → Nat × Nat} {d f : Nat} (h : d ||| 1 <<< f = d ∨ may f d = false) : stepV n c may V d (f + 1) = stepV n c may V d f := by
  rw [stepV]; simp only [if_pos h]
theorem stepV_go {n : Nat} {c : Nat → Nat → Nat} {may : Nat → Nat → Bool} {V : Nat → Nat × Nat} {d f : Nat} (h : d ||| 1 <<< f ≠ d) (hm : may f d = true) {a1 : Nat × Nat} (ha1 : a1 = if c f d + (V (d ||| 1 <<< f)).1 < (stepV n c may V d f).1 then (c f d + (V (d ||| 1 <<< f)).1, 0) else stepV n c may V d f) :
    stepV n c may V d (f + 1) = if c f d + (V (d ||| 1 <<< f)).1 = a1.1 then (a1.1, a1.2 + (V (d ||| 1 <<< f)).2) else a1 := by
  rw [stepV]
  have hs : ¬ (d ||| 1 <<< f = d ∨ may f d = false) := by rw [hm]; simp [h]
  simp only [if_neg hs]
  rw [ha1]
theorem tab_zero {n : Nat} {c : Nat → Nat → Nat} {may : Nat → Nat → Bool} {all d : Nat} : ∀ {k : Nat}, d + k < all → tab n c may all k d = (0, 0)
  | 0, h => by unfold tab; rw [if_neg (by omega)]
  | k + 1, h => by unfold tab; rw [if_neg (by omega)]; exact tab_zero (by omega)
theorem tab_succ {n : Nat} {c : Nat → Nat → Nat} {may : Nat → Nat → Bool} {all d k : Nat} (h : d + (k + 1) = all) : updV (tab n c may all k) d (stepV n c may (tab n c may all k) d n) = tab n c may all (k + 1) := by
  funext e
  unfold updV
  show _ = if e + (k + 1) = all then _ else _
  by_cases he : e = d
  · subst he; rw [if_pos rfl, if_pos h]
  · rw [if_neg he, if_neg (by omega)]

theorem rep_row (N : Nat) : (List.replicate N (0 : Int)).map (AV.int .i64) = row N fun _ => 0 := by
  unfold row
  apply List.ext_getElem
  · simp
  · intro i h1 h2; simp

theorem FI.start {h : AH} (hw : WF h) {n : Nat} {may : AV} : FI h n may (((h.new ((List.replicate (2 ^ n) (0 : Int)).map (AV.int .i64))).new ((List.replicate (2 ^ n) (0 : Int)).map (AV.int .i64))).new (tabCells n (fun _ _ => 0) may (fwS h.next (2 ^ n)) (wyS h.next (2 ^ n)))) (fun _ _ => 0) (fun _ => (0, 0)) := by
  rw [rep_row]
  have k1 := Kept.new hw (row (2 ^ n) fun _ => 0)
  have k2 := Kept.new k1.wf (row (2 ^ n) fun _ => 0)
  have k3 := Kept.new k2.wf (tabCells n (fun _ _ => 0) may (fwS h.next (2 ^ n)) (wyS h.next (2 ^ n)))
  refine ⟨(k1.trans (k2.trans k3)).keepB, at_new_self _ _, k3.keep _ _ (k2.keep _ _ (at_new_self _ _)), k3.keep _ _ (at_new_self _ _)⟩

theorem build81 (n : Nat) (f : Fn) (us ws : List AV) (b c N : Nat) : buildA Try.prog 81 [(0, I (n : Int)), (2, .fn f us ws), (3, .sl b 0 N N 1 true), (4, .sl c 0 N N 1 true)] =
    some (.agg (tabCells n (fun _ _ => 0) (.fn f us ws) (.sl b 0 N N 1 true) (.sl c 0 N N 1 true))) := by rfl
end
end Go.Proofs.Ytkhnkkbpibpaaaa.Rg

namespace Go.Proofs.Ytkhnkkbpibpaaaa.Rg
open Go.Proofs Go.Proofs.Ytkhnkkbpibpaaaa.Ab
set_option linter.unusedVariables false
set_option linter.unusedSimpArgs false
set_option maxHeartbeats 2000000
set_option maxRecDepth 100000
noncomputable section
section
variable {O : CallF} {h : AH}

theorem filled_cl (hO : OK O) (hw : WF h) {v : AV} {S : List Find} (p : Pairs h v (prs S)) {n : Nat} (hn0 : 1 ≤ n) (hn : n ≤ 6) (hS : S.length ≤ 12) (hval : ∀ x ∈ S, x.1 < n ∧ x.2 < n) {fid : FuncId} {us ws : List AV} (mayL : Nat → Nat → Bool)
    (hmay : ∀ h', KeepB h.next h h' → ∀ form done : Nat, form < n → done < 2 ^ n → Cl Try.prog O 0 fid (us ++ [I form, I done] ++ ws) h' (fun r h'' => r = .bool (mayL form done) ∧ h' = h'')) :
    Cl Try.prog O 0 51 [I n, v, .fn (.func fid) us ws] h (fun r h' => r = .ptr (h.next + 2) 0 ∧ FI h n (.fn (.func fid) us ws) h' (cnt S) (tabV n (cost n S) mayL)) := by
  have hN : 2 ^ n ≤ 64 := Nat.pow_le_pow_right (n := 2) (by omega) hn
  have hN1 : 2 ≤ 2 ^ n := (Nat.pow_le_pow_right (by omega) hn0 : 2 ^ 1 ≤ 2 ^ n)
  have h1n : 1 <<< n = 2 ^ n := Nat.one_shiftLeft n
  have e7 : ((1 <<< n : Nat) : Int) - 1 = ((2 ^ n - 1 : Nat) : Int) := by rw [h1n]; omega
  have e21 : ((2 ^ n - 1 : Nat) : Int) + 1 = ((2 ^ n : Nat) : Int) := by omega
  have hl : ∀ i j, cnt S i j ≤ 1000 := fun i j => by have := cnt_le S i j; omega
  have hlenS : (prs S).length = S.length := prs_length S
  refine Cl.intro (N := 147) (K := 340282448050615565762895768366163721671) (hO _ _ _ (by decide)) Try.func51 rfl rfl (k := 3) rfl rfl rfl (by kernel_rfl) (.cons 0 _ (.cons 1 _ (.cons 2 _ .nil))) ⟨⟨rfl, rfl⟩, ⟨rfl, rfl⟩, ⟨rfl, rfl⟩, trivial⟩ ?_
  refine EvL.seq ?_
  refine EvL.region ?_
  refine Rn.val (St.assign rfl) rfl ?_
  refine Rn.done (.cons 0 _ (.cons 1 _ (.cons 2 _ .nil))) ⟨⟨rfl, rfl⟩, ⟨rfl, rfl⟩, ⟨rfl, rfl⟩, trivial⟩ ?_
  refine thenL_normal ?_
  refine EvL.seq ?_
  refine EvL.region ?_
  refine Rn.val (St.move rfl) rfl ?_
  refine Rn.val (St.shl (m := 1) rfl rfl (by omega) (by rw [h1n]; omega)) rfl ?_
  refine Rn.val (St.sub rfl rfl (by rw [h1n]; omega) (by rw [h1n]; omega)) rfl ?_
  rw [e7]
  refine Rn.val (St.assign rfl) rfl ?_
  refine Rn.done (.cons 0 _ (.cons 1 _ (.cons 2 _ (.cons 7 _ .nil)))) ⟨⟨rfl, rfl⟩, ⟨rfl, rfl⟩, ⟨rfl, rfl⟩, ⟨rfl, rfl⟩, trivial⟩ ?_
  refine thenL_normal ?_
  refine EvL.seq ?_
  refine EvL.draw (ord := [0, 1, 2, 3, 4, 5, 6, 7, 8, 9, 10]) (by kernel_rfl) (by kernel_rfl) ?_
  refine Dr.val (St.move rfl) rfl rfl ?_
  refine Dr.val (St.move rfl) rfl rfl ?_
  refine Dr.val (St.move rfl) rfl rfl ?_
  refine Dr.val (St.add rfl rfl (by omega) (by omega)) rfl rfl ?_
  rw [e21]
  refine Dr.val (St.makeSlice rfl rfl (make_ints ap23 (fun e he => by rw [u23] at he; cases he; exact zero3) (by omega))) rfl rfl ?_
  refine Dr.val (St.move rfl) rfl rfl ?_
  refine Dr.val (St.add rfl rfl (by omega) (by omega)) rfl rfl ?_
  rw [e21]
  refine Dr.val (St.makeSlice rfl rfl (make_ints ap23 (fun e he => by rw [u23] at he; cases he; exact zero3) (by omega))) rfl rfl ?_
  refine Dr.val (St.build rfl (build81 n _ us ws _ _ _)) rfl rfl ?_
  refine Dr.val (St.box rfl) rfl rfl ?_
  refine Dr.val (St.assign rfl) rfl rfl ?_
  have F := FI.start (may := .fn (.func fid) us ws) (n := n) hw
  refine Dr.done (.cons 0 _ (.cons 1 _ (.cons 2 _ (.cons 7 _ (.cons 8 _ .nil))))) ⟨⟨rfl, rfl⟩, ⟨rfl, rfl⟩, ⟨rfl, rfl⟩, ⟨rfl, rfl⟩, ⟨rfl, rfl⟩, trivial⟩ (LoadsP.pass rfl rfl (LoadsP.pass rfl rfl (LoadsP.pass rfl rfl (LoadsP.pass rfl rfl (LoadsP.pass rfl rfl (LoadsP.pass rfl rfl (LoadsP.pass rfl rfl (LoadsP.pass rfl rfl (LoadsP.pass rfl rfl (LoadsP.pass rfl rfl (LoadsP.pass rfl rfl (LoadsP.nil)))))))))))) ?_
  refine thenL_normal ?_
  refine EvL.seq ?_
  refine EvL.seq ?_
  refine EvL.region ?_
  refine Rn.val (St.move rfl) rfl ?_
  refine Rn.val (St.len rfl (p.len u22)) rfl ?_
  refine Rn.val (St.move rfl) rfl ?_
  refine Rn.done (.cons 0 _ (.cons 2 _ (.cons 7 _ (.cons 8 _ (.cons 28 _ (.cons 29 _ (.cons 30 _ .nil))))))) ⟨⟨rfl, rfl⟩, ⟨rfl, rfl⟩, ⟨rfl, rfl⟩, ⟨rfl, rfl⟩, ⟨rfl, rfl⟩, ⟨rfl, rfl⟩, ⟨rfl, rfl⟩, trivial⟩ ?_
  refine thenL_normal ?_
  refine EvL.block ?_
  refine EvL.loop (fun m L h' => ∃ k : Nat, k ≤ S.length ∧ m = S.length - k ∧ L = (.cons 0 (I n) (.cons 2 (.fn (.func fid) us ws) (.cons 7 (I ((2 ^ n - 1 : Nat) : Int)) (.cons 8 (.ptr (h.next + 2) 0) (.cons 28 v (.cons 29 (I ((prs S).length : Nat)) (.cons 30 (I k) .nil))))))) ∧ FI h n (.fn (.func fid) us ws) h' (cnt (S.take k)) (fun _ => (0, 0))) (m := S.length) ?_ ?_
  · exact ⟨0, Nat.zero_le _, rfl, rfl, F⟩
  rintro m L hL0 ⟨k, hk, rfl, rfl, F⟩
  refine EvL.seq ?_
  refine EvL.region ?_
  refine Rn.val (St.lss rfl rfl) rfl ?_
  refine Rn.done (.cons 0 _ (.cons 2 _ (.cons 7 _ (.cons 8 _ (.cons 28 _ (.cons 29 _ (.cons 30 _ (.cons 31 _ .nil)))))))) ⟨⟨rfl, rfl⟩, ⟨rfl, rfl⟩, ⟨rfl, rfl⟩, ⟨rfl, rfl⟩, ⟨rfl, rfl⟩, ⟨rfl, rfl⟩, ⟨rfl, rfl⟩, ⟨rfl, rfl⟩, trivial⟩ ?_
  refine thenL_normal ?_
  refine EvL.seq ?_
  refine EvL.cond rfl (fun b31 => ?_) (fun b31 => ?_)
  · try simp only [decide_eq_true_eq, decide_eq_false_iff_not, Bool.not_eq_true', Bool.not_eq_false', Bool.not_true, Bool.not_false] at b31
    have hlt : k < S.length := by omega
    have hv := hval _ (List.getElem_mem hlt)
    have ha : S[k].1 < 6 := by omega
    have hb : S[k].2 < 6 := by omega
    have hc := cnt_le (S.take k) S[k].1 S[k].2
    have hc2 : (S.take k).length ≤ 12 := by simp; omega
    refine EvL.skip ?_
    refine thenL_normal ?_
    refine EvL.seq ?_
    refine EvL.block ?_
    refine EvL.seq ?_
    refine EvL.region ?_
    refine Rn.val (St.indexAddr rfl rfl (p.addr u22 sz44 (by omega))) rfl ?_
    refine Rn.val (St.load rfl (prs_at (p.kb hw F.KB) hlt)) rfl ?_
    obtain ⟨h10, e10, k10, x10, n10⟩ := alloc_store (P := Try.prog) (t := 44) (zs := zs44) (vs := [I (S[k].1 : Nat), I (S[k].2 : Nat)]) (a := .agg [I (S[k].1 : Nat), I (S[k].2 : Nat)]) (F.KB).wf sz44 rfl rfl rfl rfl
    refine Rn.val (St.alloc (allocA_of zero44 rfl)) rfl ?_
    refine Rn.val (St.store rfl rfl e10) rfl ?_
    have F := F.keep k10
    refine Rn.done (.cons 0 _ (.cons 2 _ (.cons 7 _ (.cons 8 _ (.cons 10 _ (.cons 28 _ (.cons 29 _ (.cons 30 _ .nil)))))))) ⟨⟨rfl, rfl⟩, ⟨rfl, rfl⟩, ⟨rfl, rfl⟩, ⟨rfl, rfl⟩, ⟨rfl, rfl⟩, ⟨rfl, rfl⟩, ⟨rfl, rfl⟩, ⟨rfl, rfl⟩, trivial⟩ ?_
    refine thenL_normal ?_
    refine EvL.draw (ord := [0, 1, 2, 3, 4, 5, 6, 7, 8, 9, 10, 11, 12, 13, 14, 15]) (by kernel_rfl) (by kernel_rfl) ?_
    refine Dr.val (St.move rfl) rfl rfl ?_
    refine Dr.val (St.indexAddr rfl rfl (arr_addr 0 u44 sz3 (by omega))) rfl rfl ?_
    refine Dr.val (St.load rfl (x10.load1 sh3 rfl)) rfl rfl ?_
    refine Dr.val (St.indexAddr rfl rfl (arr_addr 1 u44 sz3 (by omega))) rfl rfl ?_
    refine Dr.val (St.load rfl (x10.load1 sh3 rfl)) rfl rfl ?_
    refine Dr.val (St.nilCheck rfl rfl) rfl rfl ?_
    refine Dr.val (St.fieldAddr rfl (by rfl)) rfl rfl ?_
    refine Dr.val (St.indexAddr rfl rfl (arr_addr S[k].1 u78 sz77 ha)) rfl rfl ?_
    refine Dr.val (St.indexAddr rfl rfl (arr_addr S[k].2 u77 sz3 hb)) rfl rfl ?_
    refine Dr.val (St.load rfl (F.box.load1 sh3 (tabCells_later ha hb))) rfl rfl ?_
    refine Dr.val (St.add rfl rfl (by omega) (by omega)) rfl rfl ?_
    refine Dr.val (St.nilCheck rfl rfl) rfl rfl ?_
    refine Dr.val (St.fieldAddr rfl (by rfl)) rfl rfl ?_
    refine Dr.val (St.indexAddr rfl rfl (arr_addr S[k].1 u78 sz77 ha)) rfl rfl ?_
    refine Dr.val (St.indexAddr rfl rfl (arr_addr S[k].2 u77 sz3 hb)) rfl rfl ?_
    obtain ⟨h16, e16, F16⟩ := F.bump hw ha hb (cnt (S.take k) S[k].1 S[k].2 + 1)
    refine Dr.val (St.store rfl rfl e16) rfl rfl ?_
    have e : updL (cnt (S.take k)) S[k].1 S[k].2 (cnt (S.take k) S[k].1 S[k].2 + 1) = cnt (S.take (k + 1)) := by
      funext i j
      rw [cnt_take hlt]
      unfold updL
      split
      · rename_i hij; rw [hij.1, hij.2]
      · rfl
    rw [e] at F16
    refine Dr.done (.cons 0 _ (.cons 2 _ (.cons 7 _ (.cons 8 _ (.cons 28 _ (.cons 29 _ (.cons 30 _ .nil))))))) ⟨⟨rfl, rfl⟩, ⟨rfl, rfl⟩, ⟨rfl, rfl⟩, ⟨rfl, rfl⟩, ⟨rfl, rfl⟩, ⟨rfl, rfl⟩, ⟨rfl, rfl⟩, trivial⟩ (LoadsP.pass rfl rfl (LoadsP.pass rfl rfl (LoadsP.pass rfl rfl (LoadsP.pass rfl rfl (LoadsP.pass rfl rfl (LoadsP.pass rfl rfl (LoadsP.load rfl (LoadP.before (by kernel_rfl) (LoadP.free (St.load rfl (F.box.load1 sh3 (tabCells_later ha hb))) LoadP.nil)) (LoadsP.pass rfl rfl (LoadsP.pass rfl rfl (LoadsP.pass rfl rfl (LoadsP.pass rfl rfl (LoadsP.load rfl (LoadP.before (by kernel_rfl) (LoadP.free (St.load rfl (x10.load1 sh3 rfl)) LoadP.nil)) (LoadsP.pass rfl rfl (LoadsP.load rfl (LoadP.before (by kernel_rfl) (LoadP.free (St.load rfl (x10.load1 sh3 rfl)) LoadP.nil)) (LoadsP.pass rfl rfl (LoadsP.pass rfl rfl (LoadsP.nil))))))))))))))))) ?_
    refine blockL_normal ?_
    refine thenL_normal ?_
    refine EvL.region ?_
    refine Rn.val (St.add rfl rfl (by omega) (by omega)) rfl ?_
    refine Rn.val (St.move rfl) rfl ?_
    refine Rn.done (.cons 0 _ (.cons 2 _ (.cons 7 _ (.cons 8 _ (.cons 28 _ (.cons 29 _ (.cons 30 _ .nil))))))) ⟨⟨rfl, rfl⟩, ⟨rfl, rfl⟩, ⟨rfl, rfl⟩, ⟨rfl, rfl⟩, ⟨rfl, rfl⟩, ⟨rfl, rfl⟩, ⟨rfl, rfl⟩, trivial⟩ ?_
    exact ⟨S.length - (k + 1), by omega, k + 1, by omega, rfl, rfl, F16⟩
  · try simp only [decide_eq_true_eq, decide_eq_false_iff_not, Bool.not_eq_true', Bool.not_eq_false', Bool.not_true, Bool.not_false] at b31
    have he : k = S.length := by omega
    subst he
    rw [List.take_length] at F
    refine EvL.exit ?_
    refine thenL_exit ?_
    refine thenL_exit ?_
    refine blockL_exit ?_
    refine thenL_normal ?_
    refine EvL.seq ?_
    refine EvL.region ?_
    refine Rn.val (St.move rfl) rfl ?_
    refine Rn.val (St.nilCheck rfl rfl) rfl ?_
    refine Rn.val (St.fieldAddr rfl (by rfl)) rfl ?_
    refine Rn.val (St.load rfl F.ldW) rfl ?_
    refine Rn.val (St.move rfl) rfl ?_
    refine Rn.val (St.indexAddr rfl rfl (F.adW (by omega))) rfl ?_
    obtain ⟨h8, e8, F8⟩ := F.setW hw (d := 2 ^ n - 1) (by omega) 1
    refine Rn.val (St.store rfl rfl e8) rfl ?_
    have e : updV (fun _ => ((0, 0) : Nat × Nat)) (2 ^ n - 1) (0, 1) = tab n (cost n S) mayL (2 ^ n - 1) 0 := by
      funext d; rfl
    have F := F8
    rw [e] at F
    refine Rn.done (.cons 0 _ (.cons 2 _ (.cons 7 _ (.cons 8 _ .nil)))) ⟨⟨rfl, rfl⟩, ⟨rfl, rfl⟩, ⟨rfl, rfl⟩, ⟨rfl, rfl⟩, trivial⟩ ?_
    refine thenL_normal ?_
    refine EvL.seq ?_
    refine EvL.seq ?_
    refine EvL.region ?_
    refine Rn.val (St.move rfl) rfl ?_
    refine Rn.val (St.sub rfl rfl (by omega) (by omega)) rfl ?_
    refine Rn.val (St.assign rfl) rfl ?_
    refine Rn.done (.cons 0 _ (.cons 2 _ (.cons 8 _ (.cons 11 _ .nil)))) ⟨⟨rfl, rfl⟩, ⟨rfl, rfl⟩, ⟨rfl, rfl⟩, ⟨rfl, rfl⟩, trivial⟩ ?_
    refine thenL_normal ?_
    refine EvL.block ?_
    have e11 : ((2 ^ n - 1 : Nat) : Int) - 1 = ((2 ^ n : Nat) : Int) - 2 - ((0 : Nat) : Int) := by omega
    rw [e11]
    refine EvL.loop (fun m L h' => ∃ k : Nat, k ≤ 2 ^ n - 1 ∧ m = 2 ^ n - 1 - k ∧ L = (.cons 0 (I n) (.cons 2 (.fn (.func fid) us ws) (.cons 8 (.ptr (h.next + 2) 0) (.cons 11 (I (((2 ^ n : Nat) : Int) - 2 - (k : Int))) .nil)))) ∧ FI h n (.fn (.func fid) us ws) h' (cnt S) (tab n (cost n S) mayL (2 ^ n - 1) k)) (m := 2 ^ n - 1) ?_ ?_
    · exact ⟨0, Nat.zero_le _, rfl, rfl, F⟩
    rintro m L hL1 ⟨k, hk, rfl, rfl, F⟩
    refine EvL.seq ?_
    refine EvL.seq ?_
    refine EvL.region ?_
    refine Rn.val (St.move rfl) rfl ?_
    refine Rn.val (St.geq rfl rfl) rfl ?_
    refine Rn.done (.cons 0 _ (.cons 2 _ (.cons 8 _ (.cons 11 _ (.cons 59 _ .nil))))) ⟨⟨rfl, rfl⟩, ⟨rfl, rfl⟩, ⟨rfl, rfl⟩, ⟨rfl, rfl⟩, ⟨rfl, rfl⟩, trivial⟩ ?_
    refine thenL_normal ?_
    refine EvL.cond rfl (fun b59 => ?_) (fun b59 => ?_)
    · try simp only [decide_eq_true_eq, decide_eq_false_iff_not, Bool.not_eq_true', Bool.not_eq_false', Bool.not_true, Bool.not_false] at b59
      obtain ⟨d, hd⟩ : ∃ d : Nat, ((2 ^ n : Nat) : Int) - 2 - (k : Int) = (d : Int) := ⟨2 ^ n - 2 - k, by omega⟩
      rw [hd]
      have hdk : d + (k + 1) = 2 ^ n - 1 := by omega
      have hdN : d < 2 ^ n := by omega
      have hT0 : tab n (cost n S) mayL (2 ^ n - 1) k d = (0, 0) := tab_zero (by omega)
      generalize hT : tab n (cost n S) mayL (2 ^ n - 1) k = T at F hT0
      refine EvL.skip ?_
      refine thenL_normal ?_
      refine EvL.seq ?_
      refine EvL.block ?_
      refine EvL.seq ?_
      refine EvL.region ?_
      refine Rn.val (St.move rfl) rfl ?_
      refine Rn.val (St.nilCheck rfl rfl) rfl ?_
      refine Rn.val (St.fieldAddr rfl (by rfl)) rfl ?_
      refine Rn.val (St.load rfl F.ldF) rfl ?_
      refine Rn.val (St.move rfl) rfl ?_
      refine Rn.val (St.indexAddr rfl rfl (F.adF hdN)) rfl ?_
      obtain ⟨h12, e12, F12⟩ := F.setF hw hdN 13
      refine Rn.val (St.store rfl rfl e12) rfl ?_
      have F := F12
      rw [hT0] at F
      refine Rn.done (.cons 0 _ (.cons 2 _ (.cons 8 _ (.cons 11 _ .nil)))) ⟨⟨rfl, rfl⟩, ⟨rfl, rfl⟩, ⟨rfl, rfl⟩, ⟨rfl, rfl⟩, trivial⟩ ?_
      refine thenL_normal ?_
      refine EvL.seq ?_
      refine EvL.region ?_
      refine Rn.val (St.move rfl) rfl ?_
      refine Rn.val (St.move rfl) rfl ?_
      refine Rn.done (.cons 0 _ (.cons 2 _ (.cons 8 _ (.cons 11 _ (.cons 68 _ (.cons 69 _ .nil)))))) ⟨⟨rfl, rfl⟩, ⟨rfl, rfl⟩, ⟨rfl, rfl⟩, ⟨rfl, rfl⟩, ⟨rfl, rfl⟩, ⟨rfl, rfl⟩, trivial⟩ ?_
      refine thenL_normal ?_
      refine EvL.block ?_
      refine EvL.loop (fun m L h' => ∃ f : Nat, f ≤ n ∧ m = n - f ∧ L = (.cons 0 (I n) (.cons 2 (.fn (.func fid) us ws) (.cons 8 (.ptr (h.next + 2) 0) (.cons 11 (I d) (.cons 68 (I n) (.cons 69 (I f) .nil)))))) ∧ FI h n (.fn (.func fid) us ws) h' (cnt S) (updV T d (stepV n (cost n S) mayL T d f))) (m := n) ?_ ?_
      · exact ⟨0, Nat.zero_le _, rfl, rfl, F⟩
      rintro m L hL2 ⟨f, hf, rfl, rfl, F⟩
      refine EvL.seq ?_
      refine EvL.region ?_
      refine Rn.val (St.lss rfl rfl) rfl ?_
      refine Rn.done (.cons 0 _ (.cons 2 _ (.cons 8 _ (.cons 11 _ (.cons 68 _ (.cons 69 _ (.cons 70 _ .nil))))))) ⟨⟨rfl, rfl⟩, ⟨rfl, rfl⟩, ⟨rfl, rfl⟩, ⟨rfl, rfl⟩, ⟨rfl, rfl⟩, ⟨rfl, rfl⟩, ⟨rfl, rfl⟩, trivial⟩ ?_
      refine thenL_normal ?_
      refine EvL.seq ?_
      refine EvL.cond rfl (fun b70 => ?_) (fun b70 => ?_)
      · try simp only [decide_eq_true_eq, decide_eq_false_iff_not, Bool.not_eq_true', Bool.not_eq_false', Bool.not_true, Bool.not_false] at b70
        have hlt : f < n := by omega
        have h1f : 1 <<< f ≤ 32 := by rw [Nat.one_shiftLeft]; exact (Nat.pow_le_pow_right (by omega) (by omega) : 2 ^ f ≤ 2 ^ 5)
        have hnx : d ||| 1 <<< f < 2 ^ n := by have := or_le (n := n) (d := d) (by omega) hlt; omega
        refine EvL.skip ?_
        refine thenL_normal ?_
        refine EvL.seq ?_
        refine EvL.block ?_
        refine EvL.seq ?_
        refine EvL.region ?_
        refine Rn.val (St.move rfl) rfl ?_
        refine Rn.val (St.assign rfl) rfl ?_
        refine Rn.done (.cons 0 _ (.cons 2 _ (.cons 8 _ (.cons 11 _ (.cons 12 _ (.cons 68 _ (.cons 69 _ .nil))))))) ⟨⟨rfl, rfl⟩, ⟨rfl, rfl⟩, ⟨rfl, rfl⟩, ⟨rfl, rfl⟩, ⟨rfl, rfl⟩, ⟨rfl, rfl⟩, ⟨rfl, rfl⟩, trivial⟩ ?_
        refine thenL_normal ?_
        refine EvL.seq ?_
        refine EvL.region ?_
        refine Rn.val (St.move rfl) rfl ?_
        refine Rn.val (St.move rfl) rfl ?_
        refine Rn.val (St.shl (m := 1) rfl rfl (by omega) (by omega)) rfl ?_
        refine Rn.val (St.or rfl rfl (by show d < 9223372036854775808; omega) (by show 1 <<< f < 9223372036854775808; omega)) rfl ?_
        refine Rn.val (St.assign rfl) rfl ?_
        refine Rn.done (.cons 0 _ (.cons 2 _ (.cons 8 _ (.cons 11 _ (.cons 12 _ (.cons 13 _ (.cons 68 _ (.cons 69 _ .nil)))))))) ⟨⟨rfl, rfl⟩, ⟨rfl, rfl⟩, ⟨rfl, rfl⟩, ⟨rfl, rfl⟩, ⟨rfl, rfl⟩, ⟨rfl, rfl⟩, ⟨rfl, rfl⟩, ⟨rfl, rfl⟩, trivial⟩ ?_
        refine thenL_normal ?_
        refine EvL.seq ?_
        refine EvL.seq ?_
        refine EvL.region ?_
        refine Rn.val (St.move rfl) rfl ?_
        refine Rn.val (St.move rfl) rfl ?_
        refine Rn.val (St.eql rfl rfl) rfl ?_
        refine Rn.val (St.move rfl) rfl ?_
        refine Rn.split (tg := 79) rfl (fun g79 => ?_) (fun g79 => ?_)
        · try simp only [decide_eq_true_eq, decide_eq_false_iff_not, Bool.not_eq_true', Bool.not_eq_false', Bool.not_true, Bool.not_false] at g79
          have hsk : d ||| 1 <<< f = d := by omega
          have FN := F
          rw [← stepV_skip (.inl hsk)] at FN
          refine Rn.guardF (tg := 79) rfl rfl rfl rfl ?_
          refine Rn.guardF (tg := 79) rfl rfl rfl rfl ?_
          refine Rn.guardF (tg := 79) rfl rfl rfl rfl ?_
          refine Rn.guardF (tg := 79) rfl rfl rfl rfl ?_
          refine Rn.guardF (tg := 79) rfl rfl rfl rfl ?_
          refine Rn.val (St.pickT rfl rfl rfl) rfl ?_
          refine Rn.done (.cons 0 _ (.cons 2 _ (.cons 8 _ (.cons 11 _ (.cons 12 _ (.cons 13 _ (.cons 68 _ (.cons 69 _ (.cons 85 _ .nil))))))))) ⟨⟨rfl, rfl⟩, ⟨rfl, rfl⟩, ⟨rfl, rfl⟩, ⟨rfl, rfl⟩, ⟨rfl, rfl⟩, ⟨rfl, rfl⟩, ⟨rfl, rfl⟩, ⟨rfl, rfl⟩, ⟨rfl, rfl⟩, trivial⟩ ?_
          refine thenL_normal ?_
          refine EvL.condT rfl ?_
          refine EvL.exit ?_
          refine thenL_exit ?_
          refine blockL_exit ?_
          refine thenL_normal ?_
          refine EvL.region ?_
          refine Rn.val (St.add rfl rfl (by omega) (by omega)) rfl ?_
          refine Rn.val (St.move rfl) rfl ?_
          refine Rn.done (.cons 0 _ (.cons 2 _ (.cons 8 _ (.cons 11 _ (.cons 68 _ (.cons 69 _ .nil)))))) ⟨⟨rfl, rfl⟩, ⟨rfl, rfl⟩, ⟨rfl, rfl⟩, ⟨rfl, rfl⟩, ⟨rfl, rfl⟩, ⟨rfl, rfl⟩, trivial⟩ ?_
          exact ⟨n - (f + 1), by omega, f + 1, by omega, rfl, rfl, FN⟩
        · try simp only [decide_eq_true_eq, decide_eq_false_iff_not, Bool.not_eq_true', Bool.not_eq_false', Bool.not_true, Bool.not_false] at g79
          have hne : d ||| 1 <<< f ≠ d := by omega
          have g96 := F.getF hnx
          rw [updV_ne hne] at g96
          have g142 := F.getW hnx
          rw [updV_ne hne] at g142
          have g105 := F.getF hdN
          rw [updV_self] at g105
          refine Rn.guardT (tg := 79) rfl rfl ?_
          refine Rn.val (St.move rfl) rfl ?_
          refine Rn.guardT (tg := 79) rfl rfl ?_
          refine Rn.val (St.move rfl) rfl ?_
          refine Rn.guardT (tg := 79) rfl rfl ?_
          refine Rn.val (St.move rfl) rfl ?_
          refine Rn.guardT (tg := 79) rfl rfl ?_
          refine Rn.call rfl rfl rfl (hmay _ F.KB f d hlt hdN) fun v83 h83 c83 => ?_
          obtain ⟨rfl, rfl⟩ := c83
          refine Rn.guardT (tg := 79) rfl rfl ?_
          refine Rn.val (St.not rfl) rfl ?_
          refine Rn.val (St.pickF rfl rfl rfl) rfl ?_
          refine Rn.done (.cons 0 _ (.cons 2 _ (.cons 8 _ (.cons 11 _ (.cons 12 _ (.cons 13 _ (.cons 68 _ (.cons 69 _ (.cons 85 _ .nil))))))))) ⟨⟨rfl, rfl⟩, ⟨rfl, rfl⟩, ⟨rfl, rfl⟩, ⟨rfl, rfl⟩, ⟨rfl, rfl⟩, ⟨rfl, rfl⟩, ⟨rfl, rfl⟩, ⟨rfl, rfl⟩, ⟨rfl, rfl⟩, trivial⟩ ?_
          refine thenL_normal ?_
          refine EvL.cond rfl (fun b85 => ?_) (fun b85 => ?_)
          · try simp only [decide_eq_true_eq, decide_eq_false_iff_not, Bool.not_eq_true', Bool.not_eq_false', Bool.not_true, Bool.not_false] at b85
            have FN := F
            rw [← stepV_skip (.inr b85)] at FN
            refine EvL.exit ?_
            refine thenL_exit ?_
            refine blockL_exit ?_
            refine thenL_normal ?_
            refine EvL.region ?_
            refine Rn.val (St.add rfl rfl (by omega) (by omega)) rfl ?_
            refine Rn.val (St.move rfl) rfl ?_
            refine Rn.done (.cons 0 _ (.cons 2 _ (.cons 8 _ (.cons 11 _ (.cons 68 _ (.cons 69 _ .nil)))))) ⟨⟨rfl, rfl⟩, ⟨rfl, rfl⟩, ⟨rfl, rfl⟩, ⟨rfl, rfl⟩, ⟨rfl, rfl⟩, ⟨rfl, rfl⟩, trivial⟩ ?_
            exact ⟨n - (f + 1), by omega, f + 1, by omega, rfl, rfl, FN⟩
          · try simp only [decide_eq_true_eq, decide_eq_false_iff_not, Bool.not_eq_true', Bool.not_eq_false', Bool.not_true, Bool.not_false] at b85
            have hTn : T (d ||| 1 <<< f) = tabV n (cost n S) mayL (d ||| 1 <<< f) := by
              rw [← hT]; unfold tabV
              have := or_gt hne
              exact (tab_stay (by omega) (by omega)).symm
            have hb1 : (T (d ||| 1 <<< f)).1 ≤ 13 := by rw [hTn]; exact few_13 (n := n) (c := cost n S) (may := mayL) (by omega)
            have hb2 : (T (d ||| 1 <<< f)).2 ≤ 46656 := by rw [hTn]; exact ways_le hn (by omega)
            have hb3 : (stepV n (cost n S) mayL T d f).2 ≤ f * 46656 := stepV_ways fun g hg hgn => by
              have e : T (d ||| 1 <<< g) = tabV n (cost n S) mayL (d ||| 1 <<< g) := by
                rw [← hT]; unfold tabV
                have := or_gt hgn
                exact (tab_stay (by omega) (by omega)).symm
              rw [e]
              exact ways_le hn (or_le (by omega) (by omega))
            have hb4 : (stepV n (cost n S) mayL T d f).1 ≤ 13 := stepV_min.1
            have hcl : cost n S f d ≤ 12 := Nat.le_trans (cost_le n S f d) hS
            obtain ⟨a1, ha1⟩ : ∃ a1, a1 = if cost n S f d + (T (d ||| 1 <<< f)).1 < (stepV n (cost n S) mayL T d f).1 then (cost n S f d + (T (d ||| 1 <<< f)).1, 0) else stepV n (cost n S) mayL T d f := ⟨_, rfl⟩
            have hgo := stepV_go hne b85 ha1
            refine EvL.skip ?_
            refine thenL_normal ?_
            refine EvL.seq ?_
            refine EvL.draw (ord := [0, 1, 2, 3, 4, 5, 6, 7, 8, 9, 10, 11, 12]) (by kernel_rfl) (by kernel_rfl) ?_
            refine Dr.val (St.move rfl) rfl rfl ?_
            refine Dr.val (St.move rfl) rfl rfl ?_
            refine Dr.val (St.move rfl) rfl rfl ?_
            refine Dr.call rfl rfl rfl rfl (cost_cl hO F.box hn (by omega) (by omega) hl) fun v89 h89 c89 => ?_
            obtain ⟨rfl, rfl⟩ := c89
            rw [costS_cost]
            refine Dr.val (St.move rfl) rfl rfl ?_
            refine Dr.val (St.nilCheck rfl rfl) rfl rfl ?_
            refine Dr.val (St.fieldAddr rfl (by rfl)) rfl rfl ?_
            refine Dr.val (St.load rfl F.ldF) rfl rfl ?_
            refine Dr.val (St.move rfl) rfl rfl ?_
            refine Dr.val (St.indexAddr rfl rfl (F.adF hnx)) rfl rfl ?_
            refine Dr.val (St.load rfl g96) rfl rfl ?_
            refine Dr.val (St.add rfl rfl (by omega) (by omega)) rfl rfl ?_
            refine Dr.val (St.assign rfl) rfl rfl ?_
            refine Dr.done (.cons 0 _ (.cons 2 _ (.cons 8 _ (.cons 11 _ (.cons 13 _ (.cons 14 _ (.cons 68 _ (.cons 69 _ .nil)))))))) ⟨⟨rfl, rfl⟩, ⟨rfl, rfl⟩, ⟨rfl, rfl⟩, ⟨rfl, rfl⟩, ⟨rfl, rfl⟩, ⟨rfl, rfl⟩, ⟨rfl, rfl⟩, ⟨rfl, rfl⟩, trivial⟩ (LoadsP.pass rfl rfl (LoadsP.pass rfl rfl (LoadsP.load rfl (LoadP.free (St.load rfl g96) (LoadP.free (St.load rfl g96) LoadP.nil)) (LoadsP.pass rfl rfl (LoadsP.pass rfl rfl (LoadsP.load rfl (LoadP.free (St.load rfl F.ldF) (LoadP.free (St.load rfl F.ldF) LoadP.nil)) (LoadsP.pass rfl rfl (LoadsP.pass rfl rfl (LoadsP.pass rfl rfl (LoadsP.pass rfl rfl (LoadsP.pass rfl rfl (LoadsP.pass rfl rfl (LoadsP.pass rfl rfl (LoadsP.nil)))))))))))))) ?_
            refine thenL_normal ?_
            refine EvL.seq ?_
            refine EvL.seq ?_
            refine EvL.region ?_
            refine Rn.val (St.move rfl) rfl ?_
            refine Rn.val (St.move rfl) rfl ?_
            refine Rn.val (St.nilCheck rfl rfl) rfl ?_
            refine Rn.val (St.fieldAddr rfl (by rfl)) rfl ?_
            refine Rn.val (St.load rfl F.ldF) rfl ?_
            refine Rn.val (St.move rfl) rfl ?_
            refine Rn.val (St.indexAddr rfl rfl (F.adF hdN)) rfl ?_
            refine Rn.val (St.load rfl g105) rfl ?_
            refine Rn.val (St.lss rfl rfl) rfl ?_
            refine Rn.done (.cons 0 _ (.cons 2 _ (.cons 8 _ (.cons 11 _ (.cons 13 _ (.cons 14 _ (.cons 68 _ (.cons 69 _ (.cons 106 _ .nil))))))))) ⟨⟨rfl, rfl⟩, ⟨rfl, rfl⟩, ⟨rfl, rfl⟩, ⟨rfl, rfl⟩, ⟨rfl, rfl⟩, ⟨rfl, rfl⟩, ⟨rfl, rfl⟩, ⟨rfl, rfl⟩, ⟨rfl, rfl⟩, trivial⟩ ?_
            refine thenL_normal ?_
            refine EvL.cond rfl (fun b106 => ?_) (fun b106 => ?_)
            · try simp only [decide_eq_true_eq, decide_eq_false_iff_not, Bool.not_eq_true', Bool.not_eq_false', Bool.not_true, Bool.not_false] at b106
              have F0 := F
              refine EvL.draw (ord := [0, 1, 2, 3, 4, 5, 6, 7, 8, 10, 11, 12, 9, 13, 14]) (by kernel_rfl) (by kernel_rfl) ?_
              refine Dr.val (St.move rfl) rfl rfl ?_
              refine Dr.val (St.nilCheck rfl rfl) rfl rfl ?_
              refine Dr.val (St.fieldAddr rfl (by rfl)) rfl rfl ?_
              refine Dr.val (St.load rfl F.ldF) rfl rfl ?_
              refine Dr.val (St.move rfl) rfl rfl ?_
              refine Dr.val (St.move rfl) rfl rfl ?_
              refine Dr.val (St.nilCheck rfl rfl) rfl rfl ?_
              refine Dr.val (St.fieldAddr rfl (by rfl)) rfl rfl ?_
              refine Dr.val (St.load rfl F.ldW) rfl rfl ?_
              refine Dr.val (St.move rfl) rfl rfl ?_
              refine Dr.val (St.indexAddr rfl rfl (F.adF hdN)) rfl rfl ?_
              obtain ⟨hA, eA, FA⟩ := F.setF hw hdN (cost n S f d + (T (d ||| 1 <<< f)).1)
              refine Dr.val (St.store rfl rfl eA) rfl rfl ?_
              refine Dr.val (St.move rfl) rfl rfl ?_
              refine Dr.val (St.indexAddr rfl rfl (F.adW hdN)) rfl rfl ?_
              obtain ⟨hB, eB, FB⟩ := FA.setW hw hdN 0
              refine Dr.val (St.store rfl rfl eB) rfl rfl ?_
              have F := FB
              simp only [updV_upd, updV_self] at F
              have ha2 := ha1
              rw [if_pos (by omega)] at ha2
              rw [← ha2] at F
              have g127 := F.getF hdN
              rw [updV_self] at g127
              have g135 := F.getW hdN
              rw [updV_self] at g135
              have g142 := F.getW hnx
              rw [updV_ne hne] at g142
              have hb5 : a1.2 ≤ f * 46656 := by rw [ha2]; exact Nat.zero_le _
              refine Dr.done (.cons 0 _ (.cons 2 _ (.cons 8 _ (.cons 11 _ (.cons 13 _ (.cons 14 _ (.cons 68 _ (.cons 69 _ .nil)))))))) ⟨⟨rfl, rfl⟩, ⟨rfl, rfl⟩, ⟨rfl, rfl⟩, ⟨rfl, rfl⟩, ⟨rfl, rfl⟩, ⟨rfl, rfl⟩, ⟨rfl, rfl⟩, ⟨rfl, rfl⟩, trivial⟩ (LoadsP.pass rfl rfl (LoadsP.pass rfl rfl (LoadsP.pass rfl rfl (LoadsP.pass rfl rfl (LoadsP.pass rfl rfl (LoadsP.pass rfl rfl (LoadsP.load rfl (LoadP.before (by kernel_rfl) (LoadP.before (by kernel_rfl) (LoadP.free (St.load rfl F0.ldW) LoadP.nil))) (LoadsP.pass rfl rfl (LoadsP.pass rfl rfl (LoadsP.pass rfl rfl (LoadsP.pass rfl rfl (LoadsP.load rfl (LoadP.before (by kernel_rfl) (LoadP.before (by kernel_rfl) (LoadP.free (St.load rfl F0.ldF) LoadP.nil))) (LoadsP.pass rfl rfl (LoadsP.pass rfl rfl (LoadsP.pass rfl rfl (LoadsP.nil)))))))))))))))) ?_
              refine thenL_normal ?_
              refine EvL.seq ?_
              refine EvL.region ?_
              refine Rn.val (St.move rfl) rfl ?_
              refine Rn.val (St.move rfl) rfl ?_
              refine Rn.val (St.nilCheck rfl rfl) rfl ?_
              refine Rn.val (St.fieldAddr rfl (by rfl)) rfl ?_
              refine Rn.val (St.load rfl F.ldF) rfl ?_
              refine Rn.val (St.move rfl) rfl ?_
              refine Rn.val (St.indexAddr rfl rfl (F.adF hdN)) rfl ?_
              refine Rn.val (St.load rfl g127) rfl ?_
              refine Rn.val (St.eql rfl rfl) rfl ?_
              refine Rn.done (.cons 0 _ (.cons 2 _ (.cons 8 _ (.cons 11 _ (.cons 13 _ (.cons 68 _ (.cons 69 _ (.cons 128 _ .nil)))))))) ⟨⟨rfl, rfl⟩, ⟨rfl, rfl⟩, ⟨rfl, rfl⟩, ⟨rfl, rfl⟩, ⟨rfl, rfl⟩, ⟨rfl, rfl⟩, ⟨rfl, rfl⟩, ⟨rfl, rfl⟩, trivial⟩ ?_
              refine thenL_normal ?_
              refine EvL.cond rfl (fun b128 => ?_) (fun b128 => ?_)
              · try simp only [decide_eq_true_eq, decide_eq_false_iff_not, Bool.not_eq_true', Bool.not_eq_false', Bool.not_true, Bool.not_false] at b128
                rw [if_pos (by omega)] at hgo
                refine EvL.draw (ord := [0, 1, 2, 3, 4, 5, 6, 7, 8, 9, 10, 11, 12, 13, 14, 15, 16]) (by kernel_rfl) (by kernel_rfl) ?_
                refine Dr.val (St.move rfl) rfl rfl ?_
                refine Dr.val (St.nilCheck rfl rfl) rfl rfl ?_
                refine Dr.val (St.fieldAddr rfl (by rfl)) rfl rfl ?_
                refine Dr.val (St.load rfl F.ldW) rfl rfl ?_
                refine Dr.val (St.move rfl) rfl rfl ?_
                refine Dr.val (St.indexAddr rfl rfl (F.adW hdN)) rfl rfl ?_
                refine Dr.val (St.load rfl g135) rfl rfl ?_
                refine Dr.val (St.move rfl) rfl rfl ?_
                refine Dr.val (St.nilCheck rfl rfl) rfl rfl ?_
                refine Dr.val (St.fieldAddr rfl (by rfl)) rfl rfl ?_
                refine Dr.val (St.load rfl F.ldW) rfl rfl ?_
                refine Dr.val (St.move rfl) rfl rfl ?_
                refine Dr.val (St.indexAddr rfl rfl (F.adW hnx)) rfl rfl ?_
                refine Dr.val (St.load rfl g142) rfl rfl ?_
                refine Dr.val (St.add rfl rfl (by omega) (by omega)) rfl rfl ?_
                refine Dr.val (St.indexAddr rfl rfl (F.adW hdN)) rfl rfl ?_
                obtain ⟨hC, eC, FC⟩ := F.setW hw hdN (a1.2 + (T (d ||| 1 <<< f)).2)
                refine Dr.val (St.store rfl rfl eC) rfl rfl ?_
                have FN := FC
                simp only [updV_upd, updV_self] at FN
                rw [← hgo] at FN
                refine Dr.done (.cons 0 _ (.cons 2 _ (.cons 8 _ (.cons 11 _ (.cons 68 _ (.cons 69 _ .nil)))))) ⟨⟨rfl, rfl⟩, ⟨rfl, rfl⟩, ⟨rfl, rfl⟩, ⟨rfl, rfl⟩, ⟨rfl, rfl⟩, ⟨rfl, rfl⟩, trivial⟩ (LoadsP.pass rfl rfl (LoadsP.pass rfl rfl (LoadsP.pass rfl rfl (LoadsP.load rfl (LoadP.before (by kernel_rfl) (LoadP.free (St.load rfl g142) LoadP.nil)) (LoadsP.pass rfl rfl (LoadsP.pass rfl rfl (LoadsP.load rfl (LoadP.before (by kernel_rfl) (LoadP.free (St.load rfl F.ldW) LoadP.nil)) (LoadsP.pass rfl rfl (LoadsP.pass rfl rfl (LoadsP.pass rfl rfl (LoadsP.load rfl (LoadP.before (by kernel_rfl) (LoadP.free (St.load rfl g135) LoadP.nil)) (LoadsP.pass rfl rfl (LoadsP.pass rfl rfl (LoadsP.load rfl (LoadP.before (by kernel_rfl) (LoadP.free (St.load rfl F.ldW) LoadP.nil)) (LoadsP.pass rfl rfl (LoadsP.pass rfl rfl (LoadsP.pass rfl rfl (LoadsP.nil)))))))))))))))))) ?_
                refine blockL_normal ?_
                refine thenL_normal ?_
                refine EvL.region ?_
                refine Rn.val (St.add rfl rfl (by omega) (by omega)) rfl ?_
                refine Rn.val (St.move rfl) rfl ?_
                refine Rn.done (.cons 0 _ (.cons 2 _ (.cons 8 _ (.cons 11 _ (.cons 68 _ (.cons 69 _ .nil)))))) ⟨⟨rfl, rfl⟩, ⟨rfl, rfl⟩, ⟨rfl, rfl⟩, ⟨rfl, rfl⟩, ⟨rfl, rfl⟩, ⟨rfl, rfl⟩, trivial⟩ ?_
                exact ⟨n - (f + 1), by omega, f + 1, by omega, rfl, rfl, FN⟩
              · try simp only [decide_eq_true_eq, decide_eq_false_iff_not, Bool.not_eq_true', Bool.not_eq_false', Bool.not_true, Bool.not_false] at b128
                rw [if_neg (by omega)] at hgo
                have FN := F
                rw [← hgo] at FN
                refine EvL.skip ?_
                refine blockL_normal ?_
                refine thenL_normal ?_
                refine EvL.region ?_
                refine Rn.val (St.add rfl rfl (by omega) (by omega)) rfl ?_
                refine Rn.val (St.move rfl) rfl ?_
                refine Rn.done (.cons 0 _ (.cons 2 _ (.cons 8 _ (.cons 11 _ (.cons 68 _ (.cons 69 _ .nil)))))) ⟨⟨rfl, rfl⟩, ⟨rfl, rfl⟩, ⟨rfl, rfl⟩, ⟨rfl, rfl⟩, ⟨rfl, rfl⟩, ⟨rfl, rfl⟩, trivial⟩ ?_
                exact ⟨n - (f + 1), by omega, f + 1, by omega, rfl, rfl, FN⟩
            · try simp only [decide_eq_true_eq, decide_eq_false_iff_not, Bool.not_eq_true', Bool.not_eq_false', Bool.not_true, Bool.not_false] at b106
              have ha2 := ha1
              rw [if_neg (by omega)] at ha2
              rw [← ha2] at F
              have g127 := F.getF hdN
              rw [updV_self] at g127
              have g135 := F.getW hdN
              rw [updV_self] at g135
              have hb5 : a1.2 ≤ f * 46656 := by rw [ha2]; exact hb3
              refine EvL.skip ?_
              refine thenL_normal ?_
              refine EvL.seq ?_
              refine EvL.region ?_
              refine Rn.val (St.move rfl) rfl ?_
              refine Rn.val (St.move rfl) rfl ?_
              refine Rn.val (St.nilCheck rfl rfl) rfl ?_
              refine Rn.val (St.fieldAddr rfl (by rfl)) rfl ?_
              refine Rn.val (St.load rfl F.ldF) rfl ?_
              refine Rn.val (St.move rfl) rfl ?_
              refine Rn.val (St.indexAddr rfl rfl (F.adF hdN)) rfl ?_
              refine Rn.val (St.load rfl g127) rfl ?_
              refine Rn.val (St.eql rfl rfl) rfl ?_
              refine Rn.done (.cons 0 _ (.cons 2 _ (.cons 8 _ (.cons 11 _ (.cons 13 _ (.cons 68 _ (.cons 69 _ (.cons 128 _ .nil)))))))) ⟨⟨rfl, rfl⟩, ⟨rfl, rfl⟩, ⟨rfl, rfl⟩, ⟨rfl, rfl⟩, ⟨rfl, rfl⟩, ⟨rfl, rfl⟩, ⟨rfl, rfl⟩, ⟨rfl, rfl⟩, trivial⟩ ?_
              refine thenL_normal ?_
              refine EvL.cond rfl (fun b128 => ?_) (fun b128 => ?_)
              · try simp only [decide_eq_true_eq, decide_eq_false_iff_not, Bool.not_eq_true', Bool.not_eq_false', Bool.not_true, Bool.not_false] at b128
                rw [if_pos (by omega)] at hgo
                refine EvL.draw (ord := [0, 1, 2, 3, 4, 5, 6, 7, 8, 9, 10, 11, 12, 13, 14, 15, 16]) (by kernel_rfl) (by kernel_rfl) ?_
                refine Dr.val (St.move rfl) rfl rfl ?_
                refine Dr.val (St.nilCheck rfl rfl) rfl rfl ?_
                refine Dr.val (St.fieldAddr rfl (by rfl)) rfl rfl ?_
                refine Dr.val (St.load rfl F.ldW) rfl rfl ?_
                refine Dr.val (St.move rfl) rfl rfl ?_
                refine Dr.val (St.indexAddr rfl rfl (F.adW hdN)) rfl rfl ?_
                refine Dr.val (St.load rfl g135) rfl rfl ?_
                refine Dr.val (St.move rfl) rfl rfl ?_
                refine Dr.val (St.nilCheck rfl rfl) rfl rfl ?_
                refine Dr.val (St.fieldAddr rfl (by rfl)) rfl rfl ?_
                refine Dr.val (St.load rfl F.ldW) rfl rfl ?_
                refine Dr.val (St.move rfl) rfl rfl ?_
                refine Dr.val (St.indexAddr rfl rfl (F.adW hnx)) rfl rfl ?_
                refine Dr.val (St.load rfl g142) rfl rfl ?_
                refine Dr.val (St.add rfl rfl (by omega) (by omega)) rfl rfl ?_
                refine Dr.val (St.indexAddr rfl rfl (F.adW hdN)) rfl rfl ?_
                obtain ⟨hC, eC, FC⟩ := F.setW hw hdN (a1.2 + (T (d ||| 1 <<< f)).2)
                refine Dr.val (St.store rfl rfl eC) rfl rfl ?_
                have FN := FC
                simp only [updV_upd, updV_self] at FN
                rw [← hgo] at FN
                refine Dr.done (.cons 0 _ (.cons 2 _ (.cons 8 _ (.cons 11 _ (.cons 68 _ (.cons 69 _ .nil)))))) ⟨⟨rfl, rfl⟩, ⟨rfl, rfl⟩, ⟨rfl, rfl⟩, ⟨rfl, rfl⟩, ⟨rfl, rfl⟩, ⟨rfl, rfl⟩, trivial⟩ (LoadsP.pass rfl rfl (LoadsP.pass rfl rfl (LoadsP.pass rfl rfl (LoadsP.load rfl (LoadP.before (by kernel_rfl) (LoadP.free (St.load rfl g142) LoadP.nil)) (LoadsP.pass rfl rfl (LoadsP.pass rfl rfl (LoadsP.load rfl (LoadP.before (by kernel_rfl) (LoadP.free (St.load rfl F.ldW) LoadP.nil)) (LoadsP.pass rfl rfl (LoadsP.pass rfl rfl (LoadsP.pass rfl rfl (LoadsP.load rfl (LoadP.before (by kernel_rfl) (LoadP.free (St.load rfl g135) LoadP.nil)) (LoadsP.pass rfl rfl (LoadsP.pass rfl rfl (LoadsP.load rfl (LoadP.before (by kernel_rfl) (LoadP.free (St.load rfl F.ldW) LoadP.nil)) (LoadsP.pass rfl rfl (LoadsP.pass rfl rfl (LoadsP.pass rfl rfl (LoadsP.nil)))))))))))))))))) ?_
                refine blockL_normal ?_
                refine thenL_normal ?_
                refine EvL.region ?_
                refine Rn.val (St.add rfl rfl (by omega) (by omega)) rfl ?_
                refine Rn.val (St.move rfl) rfl ?_
                refine Rn.done (.cons 0 _ (.cons 2 _ (.cons 8 _ (.cons 11 _ (.cons 68 _ (.cons 69 _ .nil)))))) ⟨⟨rfl, rfl⟩, ⟨rfl, rfl⟩, ⟨rfl, rfl⟩, ⟨rfl, rfl⟩, ⟨rfl, rfl⟩, ⟨rfl, rfl⟩, trivial⟩ ?_
                exact ⟨n - (f + 1), by omega, f + 1, by omega, rfl, rfl, FN⟩
              · try simp only [decide_eq_true_eq, decide_eq_false_iff_not, Bool.not_eq_true', Bool.not_eq_false', Bool.not_true, Bool.not_false] at b128
                rw [if_neg (by omega)] at hgo
                have FN := F
                rw [← hgo] at FN
                refine EvL.skip ?_
                refine blockL_normal ?_
                refine thenL_normal ?_
                refine EvL.region ?_
                refine Rn.val (St.add rfl rfl (by omega) (by omega)) rfl ?_
                refine Rn.val (St.move rfl) rfl ?_
                refine Rn.done (.cons 0 _ (.cons 2 _ (.cons 8 _ (.cons 11 _ (.cons 68 _ (.cons 69 _ .nil)))))) ⟨⟨rfl, rfl⟩, ⟨rfl, rfl⟩, ⟨rfl, rfl⟩, ⟨rfl, rfl⟩, ⟨rfl, rfl⟩, ⟨rfl, rfl⟩, trivial⟩ ?_
                exact ⟨n - (f + 1), by omega, f + 1, by omega, rfl, rfl, FN⟩
      · try simp only [decide_eq_true_eq, decide_eq_false_iff_not, Bool.not_eq_true', Bool.not_eq_false', Bool.not_true, Bool.not_false] at b70
        have he : f = n := by omega
        subst he
        rw [← hT] at F
        rw [tab_succ hdk] at F
        have e60 : (d : Int) - 1 = ((2 ^ f : Nat) : Int) - 2 - ((k + 1 : Nat) : Int) := by omega
        refine EvL.exit ?_
        refine thenL_exit ?_
        refine thenL_exit ?_
        refine blockL_exit ?_
        refine blockL_normal ?_
        refine thenL_normal ?_
        refine EvL.region ?_
        refine Rn.val (St.move rfl) rfl ?_
        refine Rn.val (St.sub rfl rfl (by omega) (by omega)) rfl ?_
        rw [e60]
        refine Rn.val (St.assign rfl) rfl ?_
        refine Rn.done (.cons 0 _ (.cons 2 _ (.cons 8 _ (.cons 11 _ .nil)))) ⟨⟨rfl, rfl⟩, ⟨rfl, rfl⟩, ⟨rfl, rfl⟩, ⟨rfl, rfl⟩, trivial⟩ ?_
        exact ⟨2 ^ f - 1 - (k + 1), by omega, k + 1, by omega, rfl, rfl, F⟩
    · try simp only [decide_eq_true_eq, decide_eq_false_iff_not, Bool.not_eq_true', Bool.not_eq_false', Bool.not_true, Bool.not_false] at b59
      have he : k = 2 ^ n - 1 := by omega
      subst he
      refine EvL.exit ?_
      refine thenL_exit ?_
      refine thenL_exit ?_
      refine blockL_exit ?_
      refine thenL_normal ?_
      refine EvL.seq ?_
      refine EvL.region ?_
      refine Rn.val (St.move rfl) rfl ?_
      refine Rn.val (St.assign rfl) rfl ?_
      refine Rn.done (.cons 6 _ .nil) ⟨⟨rfl, rfl⟩, trivial⟩ ?_
      refine thenL_normal ?_
      refine EvL.ret ?_
      refine endL_ret rfl ?_
      exact ⟨rfl, F⟩

end
end
end Go.Proofs.Ytkhnkkbpibpaaaa.Rg
