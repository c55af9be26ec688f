/- Walks of the share layer: pairs with envy, opened divisions, how fair a division is: for values and owners within the limits. -/
import Derived.Test.YtllldiokcnheiaaShA

namespace Go.Proofs.Ytllldiokcnheiaa.Sh
open Go.Proofs Go.Proofs.Ytllldiokcnheiaa.Ab
set_option linter.unusedVariables false
set_option linter.unusedSimpArgs false
set_option maxHeartbeats 2000000
set_option maxRecDepth 100000
noncomputable section

/-- All pairs of which a thing holds, row by row. -/
def rowP (P : Nat → Nat → Bool) (i : Nat) : Nat → List Pr
  | 0 => []
  | j + 1 => rowP P i j ++ if P i j = true then [((i : Int), (j : Int))] else []
def allP (P : Nat → Nat → Bool) (n : Nat) : Nat → List Pr
  | 0 => []
  | i + 1 => allP P n i ++ rowP P i n

theorem rowP_len (P : Nat → Nat → Bool) (i : Nat) : ∀ j, (rowP P i j).length ≤ j
  | 0 => Nat.le_refl _
  | j + 1 => by have := rowP_len P i j; unfold rowP; split <;> simp <;> omega
theorem allP_len (P : Nat → Nat → Bool) (n : Nat) : ∀ i, (allP P n i).length ≤ i * n
  | 0 => Nat.zero_le _
  | i + 1 => by have h1 := allP_len P n i; have h2 := rowP_len P i n; unfold allP; rw [Nat.add_mul]; simp; omega
theorem rowP_nil {P : Nat → Nat → Bool} {i : Nat} : ∀ {j : Nat}, rowP P i j = [] ↔ ∀ y, y < j → P i y = false
  | 0 => ⟨fun _ y hy => by omega, fun _ => rfl⟩
  | j + 1 => by
    unfold rowP
    rw [List.append_eq_nil_iff, rowP_nil]
    constructor
    · rintro ⟨h1, h2⟩ y hy
      by_cases e : y = j
      · subst e
        cases hp : P i y
        · rfl
        · rw [hp] at h2; simp at h2
      · exact h1 y (by omega)
    · intro h
      exact ⟨fun y hy => h y (by omega), by rw [h j (by omega)]; rfl⟩
theorem allP_nil {P : Nat → Nat → Bool} {n : Nat} : ∀ {i : Nat}, allP P n i = [] ↔ ∀ x, x < i → ∀ y, y < n → P x y = false
  | 0 => ⟨fun _ y hy => by omega, fun _ => rfl⟩
  | i + 1 => by
    unfold allP
    rw [List.append_eq_nil_iff, allP_nil, rowP_nil]
    constructor
    · rintro ⟨h1, h2⟩ x hx y hy
      by_cases e : x = i
      · subst e; exact h2 y hy
      · exact h1 x (by omega) y hy
    · intro h
      exact ⟨fun x hx => h x (by omega), h i (by omega)⟩

/-- By how much one finder envies another one, with and without the greatest thing. -/
def withE (rows : List (List Int)) (own : List Int) (i j : Nat) : Int := wS (rows.getD i []) own j own.length - wS (rows.getD i []) own i own.length
def lessE (rows : List (List Int)) (own : List Int) (i j : Nat) : Int := wS (rows.getD i []) own j own.length - gS (rows.getD i []) own j own.length - wS (rows.getD i []) own i own.length
def envP (rows : List (List Int)) (own : List Int) (i j : Nat) : Bool := decide (0 < withE rows own i j)
def muchP (rows : List (List Int)) (own : List Int) (i j : Nat) : Bool := decide (0 < lessE rows own i j)

theorem getD_row {rows : List (List Int)} {i : Nat} (hi : i < rows.length) : rows.getD i [] = rows[i] := by
  rw [List.getD_eq_getElem?_getD, List.getElem?_eq_getElem hi]; rfl

/-- A list of pairs that is made: with its slice. -/
structure Pm (M : Nat) (h : AH) (v : AV) (xs : List Pr) : Prop where
  o : OPairs M h v xs
  nil : xs = [] → v = .nils
theorem Pm.keep {M : Nat} {h h' : AH} {v : AV} {xs : List Pr} (p : Pm M h v xs) (k : Keeps h h') : Pm M h' v xs := ⟨p.o.keep k, p.nil⟩
theorem Pm.isNil {M : Nat} {h : AH} {v : AV} {xs : List Pr} (p : Pm M h v xs) : isNil v = decide (xs = []) := by
  by_cases hx : xs = []
  · rw [p.nil hx]; simp [hx, Ab.isNil]
  · rw [p.o.not_nil (by cases xs with | nil => exact absurd rfl hx | cons a r => simp)]; simp [hx]

theorem Pm.push {P : Program} {M : Nat} {h : AH} {t : TypeId} {v u : AV} {xs ys : List Pr} {x y : Int} (hw : WF h) (ht : AppT P t t 2) (hs : Pm M h v xs) (hu : Pm M h u ys) (hA : Asun h v u) (hle : xs.length + 1 ≤ 1048576) (hM : 0 < M) (hMn : M ≤ h.next) :
    ∃ v' h', appendA P t t v (.sl h.next 0 1 1 2 true) (h.new [I x, I y]) = some (v', h') ∧ KeepB M h h' ∧ Pm M h' v' (xs ++ [(x, y)]) ∧ Pm M h' u ys ∧ Asun h' v' u := by
  obtain ⟨v', h', k1, k2, k3, k4, k5⟩ := Osl.push_apart (l := [I x, I y]) hw ht hs.o hu.o hA rfl rfl hle hM hMn
  exact ⟨v', h', k1, k2, ⟨by unfold OPairs; rw [cellsP_append]; simpa [cellsP] using k3, fun e => by simp at e⟩, ⟨k4, hu.nil⟩, k5⟩

theorem build64 (x y : Int) : buildA Try.prog 64 [(0, I x), (1, I y)] = some (.agg [I x, I y]) := by rfl

theorem build52 {h h' : AH} {v o : AV} {sz n sz' n' : Nat} {cs cs' : List AV} (hv : Sl h v sz n cs) (ho : Sl h' o sz' n' cs') : buildA Try.prog 52 [(0, v), (1, o)] = some (.agg [v, o]) := by
  rcases hv with ⟨rfl, _, _⟩ | ⟨_, _, _, _, _, _, rfl, _⟩ <;> rcases ho with ⟨rfl, _, _⟩ | ⟨_, _, _, _, _, _, rfl, _⟩ <;> rfl

theorem Fit.small {rows : List (List Int)} {own : List Int} (hf : Fit rows own) : Small rows := fun r hr x hx => by have := hf.val r hr x hx; omega

section
variable {O : CallF} {h : AH}

theorem pairs_cl (hO : OK O) (hw : WF h) {v o : AV} {vs : List AV} {rows : List (List Int)} {own : List Int} (d : Dv h v o vs rows own) (hlen : ∀ r ∈ rows, own.length ≤ r.length) (h6 : own.length ≤ 6) (hn : rows.length ≤ 100) (hs : Small rows) :
    Cl Try.prog O 0 22 [.agg [v, o]] h (fun r h' => ∃ a b, r = .tup [a, b] ∧ Kept h h' ∧ Pm h.next h' a (allP (envP rows own) rows.length rows.length) ∧ Pm h.next h' b (allP (muchP rows own) rows.length rows.length)) := by
  have k1 := Kept.new hw [v, o]
  have x1 : OBx h.next (h.new [v, o]) h.next [v, o] := OBx.new (Nat.le_refl _) _
  have d := d.keep k1.keep
  have w1 := k1.wf
  have hl1 : ∀ i, i ≤ rows.length → (allP (envP rows own) rows.length i).length ≤ 10000 := fun i hi => Nat.le_trans (allP_len _ _ _) (Nat.mul_le_mul (Nat.le_trans hi hn) hn)
  have hl2 : ∀ i, i ≤ rows.length → (allP (muchP rows own) rows.length i).length ≤ 10000 := fun i hi => Nat.le_trans (allP_len _ _ _) (Nat.mul_le_mul (Nat.le_trans hi hn) hn)
  refine Cl.intro (N := 47) (K := 68988378367) (hO _ _ _ (by decide)) Try.func22 rfl rfl (k := 1) rfl rfl rfl (by kernel_rfl) (.cons 0 _ .nil) ⟨⟨rfl, rfl⟩, trivial⟩ ?_
  refine EvL.seq ?_
  refine EvL.region ?_
  refine Rn.val (St.box rfl) rfl ?_
  rw [show h.new (cellsA (.agg [v, o])) = h.new [v, o] from rfl]
  generalize h.new [v, o] = h1 at k1 x1 d w1 ⊢
  refine Rn.val (St.assign rfl) rfl ?_
  refine Rn.val (St.assign rfl) rfl ?_
  refine Rn.done (.cons 1 _ (.cons 2 _ (.cons 3 _ .nil))) ⟨⟨rfl, rfl⟩, ⟨rfl, rfl⟩, ⟨rfl, rfl⟩, trivial⟩ ?_
  refine thenL_normal ?_
  refine EvL.seq ?_
  refine EvL.seq ?_
  refine EvL.region ?_
  refine Rn.val (St.fieldAddr rfl (by rfl)) rfl ?_
  refine Rn.val (St.load rfl (x1.load1 sh26 rfl)) rfl ?_
  refine Rn.val (St.len rfl (d.m.sl.len u26)) rfl ?_
  refine Rn.val (St.move rfl) rfl ?_
  refine Rn.done (.cons 1 _ (.cons 2 _ (.cons 3 _ (.cons 10 _ (.cons 11 _ .nil))))) ⟨⟨rfl, rfl⟩, ⟨rfl, rfl⟩, ⟨rfl, rfl⟩, ⟨rfl, rfl⟩, ⟨rfl, rfl⟩, trivial⟩ ?_
  refine thenL_normal ?_
  refine EvL.block ?_
  refine EvL.loop (fun m L h' => ∃ (i : Nat) (ve vm : AV), i ≤ rows.length ∧ m = rows.length - i ∧ L = (.cons 1 (.ptr h.next 0) (.cons 2 ve (.cons 3 vm (.cons 10 (I rows.length) (.cons 11 (I i) .nil))))) ∧ KeepB h1.next h1 h' ∧ Pm h1.next h' ve (allP (envP rows own) rows.length i) ∧ Pm h1.next h' vm (allP (muchP rows own) rows.length i) ∧ Asun h' ve vm) (m := rows.length) ?_ ?_
  · exact ⟨0, .nils, .nils, Nat.zero_le _, rfl, rfl, .refl w1, ⟨Osl.nil _ _ _, fun _ => rfl⟩, ⟨Osl.nil _ _ _, fun _ => rfl⟩, Asun.nil _ _⟩
  rintro m L hL0 ⟨i, ve, vm, hi, rfl, rfl, KB, pe, pm, hA⟩
  refine EvL.seq ?_
  refine EvL.region ?_
  refine Rn.val (St.lss rfl rfl) rfl ?_
  refine Rn.done (.cons 1 _ (.cons 2 _ (.cons 3 _ (.cons 10 _ (.cons 11 _ (.cons 12 _ .nil)))))) ⟨⟨rfl, rfl⟩, ⟨rfl, rfl⟩, ⟨rfl, rfl⟩, ⟨rfl, rfl⟩, ⟨rfl, rfl⟩, ⟨rfl, rfl⟩, trivial⟩ ?_
  refine thenL_normal ?_
  refine EvL.seq ?_
  refine EvL.cond rfl (fun b12 => ?_) (fun b12 => ?_)
  · try simp only [decide_eq_true_eq, decide_eq_false_iff_not, Bool.not_eq_true', Bool.not_eq_false', Bool.not_true, Bool.not_false] at b12
    have hlt : i < rows.length := by omega
    have hrl := hlen rows[i] (List.getElem_mem hlt)
    have hg := getD_row hlt
    have hl1i := hl1 i hi
    have hl2i := hl2 i hi
    refine EvL.skip ?_
    refine thenL_normal ?_
    refine EvL.seq ?_
    refine EvL.block ?_
    refine EvL.seq ?_
    refine EvL.region ?_
    refine Rn.val (St.move rfl) rfl ?_
    refine Rn.val (St.assign rfl) rfl ?_
    refine Rn.done (.cons 1 _ (.cons 2 _ (.cons 3 _ (.cons 4 _ (.cons 10 _ (.cons 11 _ .nil)))))) ⟨⟨rfl, rfl⟩, ⟨rfl, rfl⟩, ⟨rfl, rfl⟩, ⟨rfl, rfl⟩, ⟨rfl, rfl⟩, ⟨rfl, rfl⟩, trivial⟩ ?_
    refine thenL_normal ?_
    refine EvL.seq ?_
    refine EvL.region ?_
    refine Rn.val (St.fieldAddr rfl (by rfl)) rfl ?_
    refine Rn.val (St.load rfl ((x1.keep (KB.kept w1).keep).load1 sh26 rfl)) rfl ?_
    refine Rn.val (St.len rfl (d.m.sl.len u26)) rfl ?_
    refine Rn.val (St.move rfl) rfl ?_
    refine Rn.done (.cons 1 _ (.cons 2 _ (.cons 3 _ (.cons 4 _ (.cons 10 _ (.cons 11 _ (.cons 16 _ (.cons 17 _ .nil)))))))) ⟨⟨rfl, rfl⟩, ⟨rfl, rfl⟩, ⟨rfl, rfl⟩, ⟨rfl, rfl⟩, ⟨rfl, rfl⟩, ⟨rfl, rfl⟩, ⟨rfl, rfl⟩, ⟨rfl, rfl⟩, trivial⟩ ?_
    refine thenL_normal ?_
    refine EvL.block ?_
    refine EvL.loop (fun m L h' => ∃ (j : Nat) (ve vm : AV), j ≤ rows.length ∧ m = rows.length - j ∧ L = (.cons 1 (.ptr h.next 0) (.cons 2 ve (.cons 3 vm (.cons 4 (I i) (.cons 10 (I rows.length) (.cons 11 (I i) (.cons 16 (I rows.length) (.cons 17 (I j) .nil)))))))) ∧ KeepB h1.next h1 h' ∧ Pm h1.next h' ve (allP (envP rows own) rows.length i ++ rowP (envP rows own) i j) ∧ Pm h1.next h' vm (allP (muchP rows own) rows.length i ++ rowP (muchP rows own) i j) ∧ Asun h' ve vm) (m := rows.length) ?_ ?_
    · exact ⟨0, ve, vm, Nat.zero_le _, rfl, rfl, KB, by simpa [rowP] using pe, by simpa [rowP] using pm, hA⟩
    rintro m L hL1 ⟨j, ve, vm, hj, rfl, rfl, KB, pe, pm, hA⟩
    refine EvL.seq ?_
    refine EvL.region ?_
    refine Rn.val (St.lss rfl rfl) rfl ?_
    refine Rn.done (.cons 1 _ (.cons 2 _ (.cons 3 _ (.cons 4 _ (.cons 10 _ (.cons 11 _ (.cons 16 _ (.cons 17 _ (.cons 18 _ .nil))))))))) ⟨⟨rfl, rfl⟩, ⟨rfl, rfl⟩, ⟨rfl, rfl⟩, ⟨rfl, rfl⟩, ⟨rfl, rfl⟩, ⟨rfl, rfl⟩, ⟨rfl, rfl⟩, ⟨rfl, rfl⟩, ⟨rfl, rfl⟩, trivial⟩ ?_
    refine thenL_normal ?_
    refine EvL.seq ?_
    refine EvL.cond rfl (fun b18 => ?_) (fun b18 => ?_)
    · try simp only [decide_eq_true_eq, decide_eq_false_iff_not, Bool.not_eq_true', Bool.not_eq_false', Bool.not_true, Bool.not_false] at b18
      have hltj : j < rows.length := by omega
      have hr1 := rowP_len (envP rows own) i j
      have hr2 := rowP_len (muchP rows own) i j
      have ewith : wS rows[i] own j own.length - wS rows[i] own i own.length = withE rows own i j := by unfold withE; rw [hg]
      have eless : wS rows[i] own j own.length - gS rows[i] own j own.length - wS rows[i] own i own.length = lessE rows own i j := by unfold lessE; rw [hg]
      refine EvL.skip ?_
      refine thenL_normal ?_
      refine EvL.seq ?_
      refine EvL.block ?_
      refine EvL.seq ?_
      refine EvL.region ?_
      refine Rn.val (St.move rfl) rfl ?_
      refine Rn.val (St.assign rfl) rfl ?_
      refine Rn.done (.cons 1 _ (.cons 2 _ (.cons 3 _ (.cons 4 _ (.cons 5 _ (.cons 10 _ (.cons 11 _ (.cons 16 _ (.cons 17 _ .nil))))))))) ⟨⟨rfl, rfl⟩, ⟨rfl, rfl⟩, ⟨rfl, rfl⟩, ⟨rfl, rfl⟩, ⟨rfl, rfl⟩, ⟨rfl, rfl⟩, ⟨rfl, rfl⟩, ⟨rfl, rfl⟩, ⟨rfl, rfl⟩, trivial⟩ ?_
      refine thenL_normal ?_
      refine EvL.seq ?_
      refine EvL.region ?_
      refine Rn.val (St.load rfl ((x1.keep (KB.kept w1).keep).loadN sh52 (Nat.le_refl 2))) rfl ?_
      refine Rn.val (St.move rfl) rfl ?_
      refine Rn.val (St.move rfl) rfl ?_
      refine Rn.call rfl rfl rfl (envy_cl hO KB.wf (d.keep (KB.kept w1).keep) hlt hrl h6 hs) fun v24 h24 c24 => ?_
      obtain ⟨rfl, k24⟩ := c24
      rw [ewith, eless]
      have KB := KB.trans k24.keepB
      have hA := hA.keep pe.o.sl pm.o.sl k24.keep
      have pe := pe.keep k24.keep
      have pm := pm.keep k24.keep
      refine Rn.val (St.move rfl) rfl ?_
      refine Rn.val (St.extract rfl rfl) rfl ?_
      refine Rn.val (St.extract rfl rfl) rfl ?_
      refine Rn.val (St.assign rfl) rfl ?_
      refine Rn.val (St.assign rfl) rfl ?_
      refine Rn.done (.cons 1 _ (.cons 2 _ (.cons 3 _ (.cons 4 _ (.cons 5 _ (.cons 6 _ (.cons 7 _ (.cons 10 _ (.cons 11 _ (.cons 16 _ (.cons 17 _ .nil))))))))))) ⟨⟨rfl, rfl⟩, ⟨rfl, rfl⟩, ⟨rfl, rfl⟩, ⟨rfl, rfl⟩, ⟨rfl, rfl⟩, ⟨rfl, rfl⟩, ⟨rfl, rfl⟩, ⟨rfl, rfl⟩, ⟨rfl, rfl⟩, ⟨rfl, rfl⟩, ⟨rfl, rfl⟩, trivial⟩ ?_
      refine thenL_normal ?_
      refine EvL.seq ?_
      refine EvL.seq ?_
      refine EvL.region ?_
      refine Rn.val (St.move rfl) rfl ?_
      refine Rn.val (St.gtr rfl rfl) rfl ?_
      refine Rn.done (.cons 1 _ (.cons 2 _ (.cons 3 _ (.cons 4 _ (.cons 5 _ (.cons 7 _ (.cons 10 _ (.cons 11 _ (.cons 16 _ (.cons 17 _ (.cons 28 _ .nil))))))))))) ⟨⟨rfl, rfl⟩, ⟨rfl, rfl⟩, ⟨rfl, rfl⟩, ⟨rfl, rfl⟩, ⟨rfl, rfl⟩, ⟨rfl, rfl⟩, ⟨rfl, rfl⟩, ⟨rfl, rfl⟩, ⟨rfl, rfl⟩, ⟨rfl, rfl⟩, ⟨rfl, rfl⟩, trivial⟩ ?_
      refine thenL_normal ?_
      refine EvL.cond rfl (fun b28 => ?_) (fun b28 => ?_)
      · try simp only [decide_eq_true_eq, decide_eq_false_iff_not, Bool.not_eq_true', Bool.not_eq_false', Bool.not_true, Bool.not_false] at b28
        have eE : rowP (envP rows own) i (j + 1) = rowP (envP rows own) i j ++ [((i : Int), (j : Int))] := by rw [rowP, if_pos (by simp [envP, b28])]
        obtain ⟨v34, h34, e34, kb34, pe, pm, hA⟩ := Pm.push (P := Try.prog) (t := 35) (x := (i : Int)) (y := (j : Int)) KB.wf ap35 pe pm hA (by simp; omega) w1.pos KB.next
        have KB := KB.trans kb34
        rw [List.append_assoc, ← eE] at pe
        refine EvL.region ?_
        refine Rn.val (St.move rfl) rfl ?_
        refine Rn.val (St.move rfl) rfl ?_
        refine Rn.val (St.move rfl) rfl ?_
        refine Rn.val (St.build rfl (build64 _ _)) rfl ?_
        refine Rn.val (St.buildSlice rfl (one_slice ap35 rfl rfl (by decide))) rfl ?_
        refine Rn.val (St.append rfl rfl e34) rfl ?_
        refine Rn.val (St.assign rfl) rfl ?_
        refine Rn.done (.cons 1 _ (.cons 2 _ (.cons 3 _ (.cons 4 _ (.cons 5 _ (.cons 7 _ (.cons 10 _ (.cons 11 _ (.cons 16 _ (.cons 17 _ .nil)))))))))) ⟨⟨rfl, rfl⟩, ⟨rfl, rfl⟩, ⟨rfl, rfl⟩, ⟨rfl, rfl⟩, ⟨rfl, rfl⟩, ⟨rfl, rfl⟩, ⟨rfl, rfl⟩, ⟨rfl, rfl⟩, ⟨rfl, rfl⟩, ⟨rfl, rfl⟩, trivial⟩ ?_
        refine thenL_normal ?_
        refine EvL.seq ?_
        refine EvL.region ?_
        refine Rn.val (St.move rfl) rfl ?_
        refine Rn.val (St.gtr rfl rfl) rfl ?_
        refine Rn.done (.cons 1 _ (.cons 2 _ (.cons 3 _ (.cons 4 _ (.cons 5 _ (.cons 10 _ (.cons 11 _ (.cons 16 _ (.cons 17 _ (.cons 36 _ .nil)))))))))) ⟨⟨rfl, rfl⟩, ⟨rfl, rfl⟩, ⟨rfl, rfl⟩, ⟨rfl, rfl⟩, ⟨rfl, rfl⟩, ⟨rfl, rfl⟩, ⟨rfl, rfl⟩, ⟨rfl, rfl⟩, ⟨rfl, rfl⟩, ⟨rfl, rfl⟩, trivial⟩ ?_
        refine thenL_normal ?_
        refine EvL.cond rfl (fun b36 => ?_) (fun b36 => ?_)
        · try simp only [decide_eq_true_eq, decide_eq_false_iff_not, Bool.not_eq_true', Bool.not_eq_false', Bool.not_true, Bool.not_false] at b36
          have eM : rowP (muchP rows own) i (j + 1) = rowP (muchP rows own) i j ++ [((i : Int), (j : Int))] := by rw [rowP, if_pos (by simp [muchP, b36])]
          obtain ⟨v42, h42, e42, kb42, pm, pe, hA⟩ := Pm.push (P := Try.prog) (t := 35) (x := (i : Int)) (y := (j : Int)) KB.wf ap35 pm pe hA.symm (by simp; omega) w1.pos KB.next
          have hA := hA.symm
          have KB := KB.trans kb42
          rw [List.append_assoc, ← eM] at pm
          refine EvL.region ?_
          refine Rn.val (St.move rfl) rfl ?_
          refine Rn.val (St.move rfl) rfl ?_
          refine Rn.val (St.move rfl) rfl ?_
          refine Rn.val (St.build rfl (build64 _ _)) rfl ?_
          refine Rn.val (St.buildSlice rfl (one_slice ap35 rfl rfl (by decide))) rfl ?_
          refine Rn.val (St.append rfl rfl e42) rfl ?_
          refine Rn.val (St.assign rfl) rfl ?_
          refine Rn.done (.cons 1 _ (.cons 2 _ (.cons 3 _ (.cons 4 _ (.cons 10 _ (.cons 11 _ (.cons 16 _ (.cons 17 _ .nil)))))))) ⟨⟨rfl, rfl⟩, ⟨rfl, rfl⟩, ⟨rfl, rfl⟩, ⟨rfl, rfl⟩, ⟨rfl, rfl⟩, ⟨rfl, rfl⟩, ⟨rfl, rfl⟩, ⟨rfl, rfl⟩, trivial⟩ ?_
          refine blockL_normal ?_
          refine thenL_normal ?_
          refine EvL.region ?_
          refine Rn.val (St.add rfl rfl (by omega) (by omega)) rfl ?_
          refine Rn.val (St.move rfl) rfl ?_
          refine Rn.done (.cons 1 _ (.cons 2 _ (.cons 3 _ (.cons 4 _ (.cons 10 _ (.cons 11 _ (.cons 16 _ (.cons 17 _ .nil)))))))) ⟨⟨rfl, rfl⟩, ⟨rfl, rfl⟩, ⟨rfl, rfl⟩, ⟨rfl, rfl⟩, ⟨rfl, rfl⟩, ⟨rfl, rfl⟩, ⟨rfl, rfl⟩, ⟨rfl, rfl⟩, trivial⟩ ?_
          exact ⟨rows.length - (j + 1), by omega, j + 1, _, _, by omega, rfl, rfl, KB, pe, pm, hA⟩
        · try simp only [decide_eq_true_eq, decide_eq_false_iff_not, Bool.not_eq_true', Bool.not_eq_false', Bool.not_true, Bool.not_false] at b36
          have eM : rowP (muchP rows own) i (j + 1) = rowP (muchP rows own) i j := by rw [rowP, if_neg (by simp [muchP]; omega)]; simp
          rw [← eM] at pm
          refine EvL.skip ?_
          refine blockL_normal ?_
          refine thenL_normal ?_
          refine EvL.region ?_
          refine Rn.val (St.add rfl rfl (by omega) (by omega)) rfl ?_
          refine Rn.val (St.move rfl) rfl ?_
          refine Rn.done (.cons 1 _ (.cons 2 _ (.cons 3 _ (.cons 4 _ (.cons 10 _ (.cons 11 _ (.cons 16 _ (.cons 17 _ .nil)))))))) ⟨⟨rfl, rfl⟩, ⟨rfl, rfl⟩, ⟨rfl, rfl⟩, ⟨rfl, rfl⟩, ⟨rfl, rfl⟩, ⟨rfl, rfl⟩, ⟨rfl, rfl⟩, ⟨rfl, rfl⟩, trivial⟩ ?_
          exact ⟨rows.length - (j + 1), by omega, j + 1, _, _, by omega, rfl, rfl, KB, pe, pm, hA⟩
      · try simp only [decide_eq_true_eq, decide_eq_false_iff_not, Bool.not_eq_true', Bool.not_eq_false', Bool.not_true, Bool.not_false] at b28
        have eE : rowP (envP rows own) i (j + 1) = rowP (envP rows own) i j := by rw [rowP, if_neg (by simp [envP]; omega)]; simp
        rw [← eE] at pe
        refine EvL.skip ?_
        refine thenL_normal ?_
        refine EvL.seq ?_
        refine EvL.region ?_
        refine Rn.val (St.move rfl) rfl ?_
        refine Rn.val (St.gtr rfl rfl) rfl ?_
        refine Rn.done (.cons 1 _ (.cons 2 _ (.cons 3 _ (.cons 4 _ (.cons 5 _ (.cons 10 _ (.cons 11 _ (.cons 16 _ (.cons 17 _ (.cons 36 _ .nil)))))))))) ⟨⟨rfl, rfl⟩, ⟨rfl, rfl⟩, ⟨rfl, rfl⟩, ⟨rfl, rfl⟩, ⟨rfl, rfl⟩, ⟨rfl, rfl⟩, ⟨rfl, rfl⟩, ⟨rfl, rfl⟩, ⟨rfl, rfl⟩, ⟨rfl, rfl⟩, trivial⟩ ?_
        refine thenL_normal ?_
        refine EvL.cond rfl (fun b36 => ?_) (fun b36 => ?_)
        · try simp only [decide_eq_true_eq, decide_eq_false_iff_not, Bool.not_eq_true', Bool.not_eq_false', Bool.not_true, Bool.not_false] at b36
          have eM : rowP (muchP rows own) i (j + 1) = rowP (muchP rows own) i j ++ [((i : Int), (j : Int))] := by rw [rowP, if_pos (by simp [muchP, b36])]
          obtain ⟨v42, h42, e42, kb42, pm, pe, hA⟩ := Pm.push (P := Try.prog) (t := 35) (x := (i : Int)) (y := (j : Int)) KB.wf ap35 pm pe hA.symm (by simp; omega) w1.pos KB.next
          have hA := hA.symm
          have KB := KB.trans kb42
          rw [List.append_assoc, ← eM] at pm
          refine EvL.region ?_
          refine Rn.val (St.move rfl) rfl ?_
          refine Rn.val (St.move rfl) rfl ?_
          refine Rn.val (St.move rfl) rfl ?_
          refine Rn.val (St.build rfl (build64 _ _)) rfl ?_
          refine Rn.val (St.buildSlice rfl (one_slice ap35 rfl rfl (by decide))) rfl ?_
          refine Rn.val (St.append rfl rfl e42) rfl ?_
          refine Rn.val (St.assign rfl) rfl ?_
          refine Rn.done (.cons 1 _ (.cons 2 _ (.cons 3 _ (.cons 4 _ (.cons 10 _ (.cons 11 _ (.cons 16 _ (.cons 17 _ .nil)))))))) ⟨⟨rfl, rfl⟩, ⟨rfl, rfl⟩, ⟨rfl, rfl⟩, ⟨rfl, rfl⟩, ⟨rfl, rfl⟩, ⟨rfl, rfl⟩, ⟨rfl, rfl⟩, ⟨rfl, rfl⟩, trivial⟩ ?_
          refine blockL_normal ?_
          refine thenL_normal ?_
          refine EvL.region ?_
          refine Rn.val (St.add rfl rfl (by omega) (by omega)) rfl ?_
          refine Rn.val (St.move rfl) rfl ?_
          refine Rn.done (.cons 1 _ (.cons 2 _ (.cons 3 _ (.cons 4 _ (.cons 10 _ (.cons 11 _ (.cons 16 _ (.cons 17 _ .nil)))))))) ⟨⟨rfl, rfl⟩, ⟨rfl, rfl⟩, ⟨rfl, rfl⟩, ⟨rfl, rfl⟩, ⟨rfl, rfl⟩, ⟨rfl, rfl⟩, ⟨rfl, rfl⟩, ⟨rfl, rfl⟩, trivial⟩ ?_
          exact ⟨rows.length - (j + 1), by omega, j + 1, _, _, by omega, rfl, rfl, KB, pe, pm, hA⟩
        · try simp only [decide_eq_true_eq, decide_eq_false_iff_not, Bool.not_eq_true', Bool.not_eq_false', Bool.not_true, Bool.not_false] at b36
          have eM : rowP (muchP rows own) i (j + 1) = rowP (muchP rows own) i j := by rw [rowP, if_neg (by simp [muchP]; omega)]; simp
          rw [← eM] at pm
          refine EvL.skip ?_
          refine blockL_normal ?_
          refine thenL_normal ?_
          refine EvL.region ?_
          refine Rn.val (St.add rfl rfl (by omega) (by omega)) rfl ?_
          refine Rn.val (St.move rfl) rfl ?_
          refine Rn.done (.cons 1 _ (.cons 2 _ (.cons 3 _ (.cons 4 _ (.cons 10 _ (.cons 11 _ (.cons 16 _ (.cons 17 _ .nil)))))))) ⟨⟨rfl, rfl⟩, ⟨rfl, rfl⟩, ⟨rfl, rfl⟩, ⟨rfl, rfl⟩, ⟨rfl, rfl⟩, ⟨rfl, rfl⟩, ⟨rfl, rfl⟩, ⟨rfl, rfl⟩, trivial⟩ ?_
          exact ⟨rows.length - (j + 1), by omega, j + 1, _, _, by omega, rfl, rfl, KB, pe, pm, hA⟩
    · try simp only [decide_eq_true_eq, decide_eq_false_iff_not, Bool.not_eq_true', Bool.not_eq_false', Bool.not_true, Bool.not_false] at b18
      have he : j = rows.length := by omega
      subst he
      refine EvL.exit ?_
      refine thenL_exit ?_
      refine thenL_exit ?_
      refine blockL_exit ?_
      refine blockL_normal ?_
      refine thenL_normal ?_
      refine EvL.region ?_
      refine Rn.val (St.add rfl rfl (by omega) (by omega)) rfl ?_
      refine Rn.val (St.move rfl) rfl ?_
      refine Rn.done (.cons 1 _ (.cons 2 _ (.cons 3 _ (.cons 10 _ (.cons 11 _ .nil))))) ⟨⟨rfl, rfl⟩, ⟨rfl, rfl⟩, ⟨rfl, rfl⟩, ⟨rfl, rfl⟩, ⟨rfl, rfl⟩, trivial⟩ ?_
      exact ⟨rows.length - (i + 1), by omega, i + 1, _, _, by omega, rfl, rfl, KB, pe, pm, hA⟩
  · try simp only [decide_eq_true_eq, decide_eq_false_iff_not, Bool.not_eq_true', Bool.not_eq_false', Bool.not_true, Bool.not_false] at b12
    have he : i = rows.length := by omega
    subst he
    refine EvL.exit ?_
    refine thenL_exit ?_
    refine thenL_exit ?_
    refine blockL_exit ?_
    refine thenL_normal ?_
    refine EvL.seq ?_
    refine EvL.region ?_
    refine Rn.val (St.move rfl) rfl ?_
    refine Rn.val (St.move rfl) rfl ?_
    refine Rn.val (St.assign rfl) rfl ?_
    refine Rn.val (St.assign rfl) rfl ?_
    refine Rn.done (.cons 2 _ (.cons 3 _ .nil)) ⟨⟨rfl, rfl⟩, ⟨rfl, rfl⟩, trivial⟩ ?_
    refine thenL_normal ?_
    refine EvL.ret ?_
    refine endL_ret rfl ?_
    exact ⟨_, _, rfl, k1.trans (KB.kept w1), ⟨pe.o.down k1.next, pe.nil⟩, ⟨pm.o.down k1.next, pm.nil⟩⟩

theorem opened1_cl (hO : OK O) {b M : Nat} {v : AV} (x : OBx M h b [v]) {vs : List AV} {n : Nat} (s : Sl h v 1 n vs) (hn : n ≤ 100) (y : Int) : Cl Try.prog O 0 47 [I y, .ptr b 0] h (fun r h' => r = .bool (!decide (0 ≤ y ∧ y ≤ (n : Int) - 1)) ∧ h = h') := by
  refine Cl.intro (N := 10) (K := 11) (hO _ _ _ (by decide)) Try.func47 rfl rfl (k := 2) rfl rfl rfl (by kernel_rfl) (.cons 0 _ (.cons 1 _ .nil)) ⟨⟨rfl, rfl⟩, ⟨rfl, rfl⟩, trivial⟩ ?_
  refine EvL.seq ?_
  refine EvL.region ?_
  refine Rn.val (St.assign rfl) rfl ?_
  refine Rn.done (.cons 0 _ (.cons 1 _ .nil)) ⟨⟨rfl, rfl⟩, ⟨rfl, rfl⟩, trivial⟩ ?_
  refine thenL_normal ?_
  refine EvL.seq ?_
  refine EvL.region ?_
  refine Rn.val (St.move rfl) rfl ?_
  refine Rn.val (St.load rfl (x.load1 sh26 rfl)) rfl ?_
  refine Rn.val (St.len rfl (s.len u26)) rfl ?_
  refine Rn.val (St.sub rfl rfl (by omega) (by omega)) rfl ?_
  refine Rn.call rfl rfl rfl (within_cl hO _ _ _) fun v8 h8 c8 => ?_
  obtain ⟨rfl, rfl⟩ := c8
  refine Rn.val (St.not rfl) rfl ?_
  refine Rn.val (St.assign rfl) rfl ?_
  refine Rn.done (.cons 3 _ .nil) ⟨⟨rfl, rfl⟩, trivial⟩ ?_
  refine thenL_normal ?_
  refine EvL.ret ?_
  refine endL_ret rfl ?_
  exact ⟨rfl, rfl⟩

theorem cloneInts_cl (hO : OK O) (hw : WF h) {v : AV} {S : List Int} (p : Ints h v S) (hS : S.length ≤ 1048576) : Cl Try.prog O 0 9 [v] h (fun r h' => Kept h h' ∧ OInts h.next h' r S) := by
  refine Cl.intro (N := 8) (K := 21) (hO _ _ _ (by decide)) Try.func9 rfl rfl (k := 1) rfl rfl rfl (by kernel_rfl) (.cons 0 _ .nil) ⟨⟨rfl, rfl⟩, trivial⟩ ?_
  refine EvL.seq ?_
  refine EvL.region ?_
  refine Rn.val (St.assign rfl) rfl ?_
  refine Rn.done (.cons 0 _ .nil) ⟨⟨rfl, rfl⟩, trivial⟩ ?_
  refine thenL_normal ?_
  refine EvL.seq ?_
  refine EvL.seq ?_
  refine EvL.region ?_
  refine Rn.val (St.move rfl) rfl ?_
  refine Rn.val (St.bin rfl rfl (Sl.eqNil p u28)) rfl ?_
  refine Rn.done (.cons 0 _ (.cons 4 _ .nil)) ⟨⟨rfl, rfl⟩, ⟨rfl, rfl⟩, trivial⟩ ?_
  refine thenL_normal ?_
  refine EvL.cond rfl (fun b4 => ?_) (fun b4 => ?_)
  · try simp only [decide_eq_true_eq, decide_eq_false_iff_not, Bool.not_eq_true', Bool.not_eq_false', Bool.not_true, Bool.not_false] at b4
    obtain ⟨rfl, h0, _⟩ := p.isNil_iff b4
    have hS0 : S = [] := List.eq_nil_of_length_eq_zero h0
    subst hS0
    refine EvL.seq ?_
    refine EvL.region ?_
    refine Rn.val (St.assign rfl) rfl ?_
    refine Rn.done (.cons 2 _ .nil) ⟨⟨rfl, rfl⟩, trivial⟩ ?_
    refine thenL_normal ?_
    refine EvL.ret ?_
    refine thenL_ret ?_
    refine endL_ret rfl ?_
    exact ⟨.refl hw, Osl.nil _ _ _⟩
  · try simp only [decide_eq_true_eq, decide_eq_false_iff_not, Bool.not_eq_true', Bool.not_eq_false', Bool.not_true, Bool.not_false] at b4
    refine EvL.skip ?_
    refine thenL_normal ?_
    refine EvL.seq ?_
    refine EvL.region ?_
    refine Rn.val (St.buildSlice rfl (no_slice ap28)) rfl ?_
    refine Rn.val (St.move rfl) rfl ?_
    have kn := Kept.new hw []
    obtain ⟨v7, h7, e7, kb7, o7⟩ := OInts.append (M := h.next) (v := .sl h.next 0 0 0 1 true) (xs := []) kn.wf ap28 (Osl.new (Nat.le_refl _) rfl) (p.keep kn.keep) (by simpa using hS) hw.pos kn.next
    refine Rn.val (St.append rfl rfl e7) rfl ?_
    refine Rn.val (St.assign rfl) rfl ?_
    refine Rn.done (.cons 2 _ .nil) ⟨⟨rfl, rfl⟩, trivial⟩ ?_
    refine thenL_normal ?_
    refine EvL.ret ?_
    refine endL_ret rfl ?_
    rw [List.nil_append] at o7
    exact ⟨KeepB.kept hw (kn.keepB.trans kb7), o7⟩

theorem opened_cl (hO : OK O) (hw : WF h) {v o : AV} {vs : List AV} {rows : List (List Int)} {own : List Int} (d : Dv h v o vs rows own) (hf : Fit rows own) :
    Cl Try.prog O 0 21 [v, o] h (fun r h' => ∃ o', r = .tup [.agg [v, o'], I 0] ∧ Kept h h' ∧ OInts h.next h' o' own ∧ Dv h' v o' vs rows own) := by
  have d00 := d
  have k2 := Kept.new hw [v]
  have x2 : OBx h.next (h.new [v]) h.next [v] := OBx.new (Nat.le_refl _) _
  have k4 := Kept.new k2.wf [.nils, .nils]
  have x4 : OBx (h.next + 1) ((h.new [v]).new [.nils, .nils]) (h.next + 1) [.nils, .nils] := OBx.new (Nat.le_refl _) _
  have x2 := x2.keep k4.keep
  have d := d.keep (k2.trans k4).keep
  have k24 := k2.trans k4
  have w4 := k4.wf
  have hcell : cellsA v = [v] := by rcases d.m.sl with ⟨rfl, _, _⟩ | ⟨_, _, _, _, _, _, rfl, _⟩ <;> rfl
  obtain ⟨a0, ha0, i0⟩ := d.m.rows.get (i := 0) hf.n0
  have hn0 : 0 < rows.length := hf.n0
  have hl0 := hf.len rows[0] (List.getElem_mem hn0)
  have ho6 := hf.o6; have hn4 := hf.n4
  refine Cl.intro (N := 32) (K := 8405623) (hO _ _ _ (by decide)) Try.func21 rfl rfl (k := 2) rfl rfl rfl (by kernel_rfl) (.cons 0 _ (.cons 1 _ .nil)) ⟨⟨rfl, rfl⟩, ⟨rfl, rfl⟩, trivial⟩ ?_
  refine EvL.seq ?_
  refine EvL.region ?_
  refine Rn.val (St.box rfl) rfl ?_
  rw [hcell]
  refine Rn.val (St.alloc (allocA_of (cs := zs52) zero52 rfl)) rfl ?_
  rw [show zs52 = [AV.nils, AV.nils] from rfl]
  rw [show (h.new [v]).next = h.next + 1 from rfl]
  generalize (h.new [v]).new [.nils, .nils] = h1 at x2 x4 d k24 w4 i0 ⊢
  refine Rn.val (St.assign rfl) rfl ?_
  refine Rn.done (.cons 1 _ (.cons 2 _ (.cons 4 _ .nil))) ⟨⟨rfl, rfl⟩, ⟨rfl, rfl⟩, ⟨rfl, rfl⟩, trivial⟩ ?_
  refine thenL_normal ?_
  refine EvL.seq ?_
  refine EvL.region ?_
  refine Rn.val (St.load rfl (x2.load1 sh26 rfl)) rfl ?_
  refine Rn.call rfl rfl rfl (check_cl hO w4 d.m (n := own.length) hf.n0 hf.n4 hf.o6 hf.len hf.val) fun v8 h8 c8 => ?_
  obtain ⟨rfl, rfl⟩ := c8
  refine Rn.val (St.assign rfl) rfl ?_
  refine Rn.done (.cons 1 _ (.cons 2 _ (.cons 4 _ (.cons 6 _ .nil)))) ⟨⟨rfl, rfl⟩, ⟨rfl, rfl⟩, ⟨rfl, rfl⟩, ⟨rfl, rfl⟩, trivial⟩ ?_
  refine thenL_normal ?_
  refine EvL.seq ?_
  refine EvL.block ?_
  refine EvL.seq ?_
  refine EvL.region ?_
  refine Rn.val (St.move rfl) rfl ?_
  refine Rn.val (St.neq rfl rfl) rfl ?_
  refine Rn.val (St.assign rfl) rfl ?_
  refine Rn.done (.cons 1 _ (.cons 2 _ (.cons 4 _ (.cons 6 _ (.cons 9 _ .nil))))) ⟨⟨rfl, rfl⟩, ⟨rfl, rfl⟩, ⟨rfl, rfl⟩, ⟨rfl, rfl⟩, ⟨rfl, rfl⟩, trivial⟩ ?_
  refine thenL_normal ?_
  refine EvL.cond rfl (fun b9 => ?_) (fun b9 => ?_)
  · try simp only [decide_eq_true_eq, decide_eq_false_iff_not, Bool.not_eq_true', Bool.not_eq_false', Bool.not_true, Bool.not_false] at b9
    exact absurd rfl b9
  · try simp only [decide_eq_true_eq, decide_eq_false_iff_not, Bool.not_eq_true', Bool.not_eq_false', Bool.not_true, Bool.not_false] at b9
    refine EvL.seq ?_
    refine EvL.region ?_
    refine Rn.val (St.move rfl) rfl ?_
    refine Rn.val (St.len rfl (d.o.len u28)) rfl ?_
    refine Rn.val (St.load rfl (x2.load1 sh26 rfl)) rfl ?_
    refine Rn.val (St.indexAddr rfl rfl (d.m.sl.addr (i := 0) u26 sz28 hf.n0)) rfl ?_
    refine Rn.val (St.load rfl (d.m.sl.cell sh28 ha0)) rfl ?_
    refine Rn.val (St.len rfl (i0.len u28)) rfl ?_
    refine Rn.val (St.neq rfl rfl) rfl ?_
    refine Rn.val (St.assign rfl) rfl ?_
    refine Rn.done (.cons 1 _ (.cons 2 _ (.cons 4 _ (.cons 14 _ .nil)))) ⟨⟨rfl, rfl⟩, ⟨rfl, rfl⟩, ⟨rfl, rfl⟩, ⟨rfl, rfl⟩, trivial⟩ ?_
    refine thenL_normal ?_
    refine EvL.cond rfl (fun b14 => ?_) (fun b14 => ?_)
    · try simp only [decide_eq_true_eq, decide_eq_false_iff_not, Bool.not_eq_true', Bool.not_eq_false', Bool.not_true, Bool.not_false] at b14
      omega
    · try simp only [decide_eq_true_eq, decide_eq_false_iff_not, Bool.not_eq_true', Bool.not_eq_false', Bool.not_true, Bool.not_false] at b14
      refine EvL.seq ?_
      refine EvL.region ?_
      refine Rn.val (St.makeFunc rfl rfl) rfl ?_
      refine Rn.val (St.move rfl) rfl ?_
      refine Rn.call rfl rfl rfl (some_cl hO w4 d.o (by omega) (fun y => !decide (0 ≤ y ∧ y ≤ (rows.length : Int) - 1)) (fun j hj => opened1_cl hO x2 d.m.sl (by omega) _)) fun v26 h26 c26 => ?_
      obtain ⟨rfl, rfl⟩ := c26
      refine Rn.val (St.assign rfl) rfl ?_
      refine Rn.done (.cons 1 _ (.cons 2 _ (.cons 4 _ (.cons 23 _ .nil)))) ⟨⟨rfl, rfl⟩, ⟨rfl, rfl⟩, ⟨rfl, rfl⟩, ⟨rfl, rfl⟩, trivial⟩ ?_
      refine thenL_normal ?_
      refine EvL.cond rfl (fun b23 => ?_) (fun b23 => ?_)
      · try simp only [decide_eq_true_eq, decide_eq_false_iff_not, Bool.not_eq_true', Bool.not_eq_false', Bool.not_true, Bool.not_false] at b23
        
        exfalso
        obtain ⟨x, hx, hb⟩ := List.any_eq_true.1 b23
        have := hf.who x hx
        simp at hb; omega
      · try simp only [decide_eq_true_eq, decide_eq_false_iff_not, Bool.not_eq_true', Bool.not_eq_false', Bool.not_true, Bool.not_false] at b23
        refine EvL.skip ?_
        refine blockL_normal ?_
        refine thenL_normal ?_
        refine EvL.seq ?_
        refine EvL.draw (ord := [1, 2, 0, 3, 4, 5]) (by kernel_rfl) (by kernel_rfl) ?_
        refine Dr.val (St.move rfl) rfl rfl ?_
        refine Dr.call rfl rfl rfl rfl (cloneInts_cl hO w4 d.o (by omega)) fun v30 h30 c30 => ?_
        obtain ⟨k30, o30⟩ := c30
        have x4' := x4.keep k30.keep
        have hlt4 := x4.fam_lt w4 k30.keep
        refine Dr.val (St.load rfl ((x2.keep k30.keep).load1 sh26 rfl)) rfl rfl ?_
        refine Dr.val (St.build rfl (build52 d.m.sl o30.ints)) rfl rfl ?_
        obtain ⟨h5, e5, kb5, x5, n5, fr5⟩ := OBx.store (P := Try.prog) (t := 52) (off := 0) (a := .agg [v, v30]) (vs := [v, v30]) k30.wf x4' sz52 rfl rfl (Nat.le_refl 2) (flat2 (d.keep k30.keep).m.sl o30.ints) (by omega)
        refine Dr.val (St.store rfl rfl e5) rfl rfl ?_
        have o5 := Osl.other_box fr5 hlt4 o30
        have kall := ((k24.trans k30).keepB.trans (kb5.down (Nat.le_succ _))).kept hw
        have ld5 : loadA Try.prog 52 (.ptr (h.next + 1) 0) h5 = some (.agg [v, v30]) := x5.loadN sh52 (Nat.le_refl 2)
        refine Dr.val (St.assign rfl) rfl rfl ?_
        refine Dr.done (.cons 4 _ (.cons 5 _ .nil)) ⟨⟨rfl, rfl⟩, ⟨rfl, rfl⟩, trivial⟩ (LoadsP.pass rfl rfl (LoadsP.pass rfl rfl (LoadsP.pass rfl rfl (LoadsP.load rfl (LoadP.before (by kernel_rfl) (LoadP.free (St.load rfl ((x2.keep k30.keep).load1 sh26 rfl)) (LoadP.free (St.load rfl (x2.load1 sh26 rfl)) LoadP.nil))) (LoadsP.pass rfl rfl (LoadsP.pass rfl rfl (LoadsP.nil))))))) ?_
        refine thenL_normal ?_
        refine EvL.ret ?_
        refine endL_ret (resLs_cell_tmp rfl ld5 rfl) ?_
        exact ⟨v30, rfl, kall, o5.down k24.next, (d00.keep kall.keep).m, o5.sl⟩

theorem fair_cl (hO : OK O) (hw : WF h) {v o : AV} {vs : List AV} {rows : List (List Int)} {own : List Int} (d : Dv h v o vs rows own) (hf : Fit rows own) :
    Cl Try.prog O 0 7 [v, o] h (fun r h' => r = .tup [I (if allP (muchP rows own) rows.length rows.length ≠ [] then 0 else if allP (envP rows own) rows.length rows.length ≠ [] then 1 else 2), I 0] ∧ Kept h h') := by
  have KB := KeepB.refl (M := h.next) hw
  have hn4 := hf.n4
  refine Cl.intro (N := 30) (K := 151127027) (hO _ _ _ (by decide)) Try.func7 rfl rfl (k := 2) rfl rfl rfl (by kernel_rfl) (.cons 0 _ (.cons 1 _ .nil)) ⟨⟨rfl, rfl⟩, ⟨rfl, rfl⟩, trivial⟩ ?_
  refine EvL.seq ?_
  refine EvL.region ?_
  refine Rn.val (St.assign rfl) rfl ?_
  refine Rn.val (St.assign rfl) rfl ?_
  refine Rn.done (.cons 0 _ (.cons 1 _ .nil)) ⟨⟨rfl, rfl⟩, ⟨rfl, rfl⟩, trivial⟩ ?_
  refine thenL_normal ?_
  refine EvL.seq ?_
  refine EvL.region ?_
  refine Rn.val (St.move rfl) rfl ?_
  refine Rn.val (St.move rfl) rfl ?_
  refine Rn.call rfl rfl rfl (opened_cl hO hw d hf) fun v13 h13 c13 => ?_
  obtain ⟨o2, rfl, k13, oo, d2⟩ := c13
  have KB := KB.trans k13.keepB
  refine Rn.val (St.move rfl) rfl ?_
  refine Rn.val (St.extract rfl rfl) rfl ?_
  refine Rn.val (St.extract rfl rfl) rfl ?_
  obtain ⟨h6, e6, k6, x6, n6⟩ := alloc_store (P := Try.prog) (t := 52) (zs := zs52) (vs := [v, o2]) (a := .agg [v, o2]) (KB).wf sz52 rfl rfl rfl d2.flat
  refine Rn.val (St.alloc (allocA_of zero52 rfl)) rfl ?_
  refine Rn.val (St.store rfl rfl e6) rfl ?_
  have KB := KB.trans k6.keepB
  have d2 := d2.keep k6.keep
  refine Rn.val (St.assign rfl) rfl ?_
  refine Rn.done (.cons 6 _ (.cons 7 _ .nil)) ⟨⟨rfl, rfl⟩, ⟨rfl, rfl⟩, trivial⟩ ?_
  refine thenL_normal ?_
  refine EvL.seq ?_
  refine EvL.seq ?_
  refine EvL.region ?_
  refine Rn.val (St.move rfl) rfl ?_
  refine Rn.val (St.neq rfl rfl) rfl ?_
  refine Rn.done (.cons 6 _ (.cons 7 _ (.cons 17 _ .nil))) ⟨⟨rfl, rfl⟩, ⟨rfl, rfl⟩, ⟨rfl, rfl⟩, trivial⟩ ?_
  refine thenL_normal ?_
  refine EvL.cond rfl (fun b17 => ?_) (fun b17 => ?_)
  · try simp only [decide_eq_true_eq, decide_eq_false_iff_not, Bool.not_eq_true', Bool.not_eq_false', Bool.not_true, Bool.not_false] at b17
    exact absurd rfl b17
  · try simp only [decide_eq_true_eq, decide_eq_false_iff_not, Bool.not_eq_true', Bool.not_eq_false', Bool.not_true, Bool.not_false] at b17
    refine EvL.skip ?_
    refine thenL_normal ?_
    refine EvL.seq ?_
    refine EvL.seq ?_
    refine EvL.region ?_
    refine Rn.val (St.load rfl (x6.loadN sh52 (Nat.le_refl 2))) rfl ?_
    refine Rn.call rfl rfl rfl (pairs_cl hO KB.wf d2 (fun r hr => Nat.le_of_eq (hf.len r hr).symm) hf.o6 (by omega) hf.small) fun v21 h21 c21 => ?_
    obtain ⟨a, b, rfl, k21, pa, pb⟩ := c21
    have KB := KB.trans k21.keepB
    refine Rn.val (St.move rfl) rfl ?_
    refine Rn.val (St.extract rfl rfl) rfl ?_
    refine Rn.val (St.extract rfl rfl) rfl ?_
    refine Rn.val (St.assign rfl) rfl ?_
    refine Rn.val (St.assign rfl) rfl ?_
    refine Rn.done (.cons 8 _ (.cons 9 _ .nil)) ⟨⟨rfl, rfl⟩, ⟨rfl, rfl⟩, trivial⟩ ?_
    refine thenL_normal ?_
    refine EvL.block ?_
    refine EvL.seq ?_
    refine EvL.region ?_
    refine Rn.val (St.move rfl) rfl ?_
    refine Rn.val (St.bin rfl rfl (Sl.neNil pb.o.sl u35)) rfl ?_
    refine Rn.val (St.assign rfl) rfl ?_
    refine Rn.done (.cons 8 _ (.cons 24 _ .nil)) ⟨⟨rfl, rfl⟩, ⟨rfl, rfl⟩, trivial⟩ ?_
    refine thenL_normal ?_
    refine EvL.cond rfl (fun b24 => ?_) (fun b24 => ?_)
    · try simp only [decide_eq_true_eq, decide_eq_false_iff_not, Bool.not_eq_true', Bool.not_eq_false', Bool.not_true, Bool.not_false] at b24
      rw [pb.isNil] at b24
      have hb24 : allP (muchP rows own) rows.length rows.length ≠ [] := by simpa using b24
      refine EvL.seq ?_
      refine EvL.region ?_
      refine Rn.val (St.assign rfl) rfl ?_
      refine Rn.val (St.assign rfl) rfl ?_
      refine Rn.done (.cons 4 _ (.cons 5 _ .nil)) ⟨⟨rfl, rfl⟩, ⟨rfl, rfl⟩, trivial⟩ ?_
      refine thenL_normal ?_
      refine EvL.ret ?_
      refine blockL_ret ?_
      refine thenL_ret ?_
      refine endL_ret rfl ?_
      exact ⟨by rw [if_pos hb24]; rfl, KB.kept hw⟩
    · try simp only [decide_eq_true_eq, decide_eq_false_iff_not, Bool.not_eq_true', Bool.not_eq_false', Bool.not_true, Bool.not_false] at b24
      rw [pb.isNil] at b24
      have hb24 : allP (muchP rows own) rows.length rows.length = [] := by simpa using b24
      refine EvL.seq ?_
      refine EvL.region ?_
      refine Rn.val (St.move rfl) rfl ?_
      refine Rn.val (St.bin rfl rfl (Sl.neNil pa.o.sl u35)) rfl ?_
      refine Rn.val (St.assign rfl) rfl ?_
      refine Rn.done (.cons 27 _ .nil) ⟨⟨rfl, rfl⟩, trivial⟩ ?_
      refine thenL_normal ?_
      refine EvL.cond rfl (fun b27 => ?_) (fun b27 => ?_)
      · try simp only [decide_eq_true_eq, decide_eq_false_iff_not, Bool.not_eq_true', Bool.not_eq_false', Bool.not_true, Bool.not_false] at b27
        rw [pa.isNil] at b27
        have hb27 : allP (envP rows own) rows.length rows.length ≠ [] := by simpa using b27
        refine EvL.seq ?_
        refine EvL.region ?_
        refine Rn.val (St.assign rfl) rfl ?_
        refine Rn.val (St.assign rfl) rfl ?_
        refine Rn.done (.cons 4 _ (.cons 5 _ .nil)) ⟨⟨rfl, rfl⟩, ⟨rfl, rfl⟩, trivial⟩ ?_
        refine thenL_normal ?_
        refine EvL.ret ?_
        refine blockL_ret ?_
        refine thenL_ret ?_
        refine endL_ret rfl ?_
        exact ⟨by rw [if_neg (fun e => e hb24), if_pos hb27]; rfl, KB.kept hw⟩
      · try simp only [decide_eq_true_eq, decide_eq_false_iff_not, Bool.not_eq_true', Bool.not_eq_false', Bool.not_true, Bool.not_false] at b27
        rw [pa.isNil] at b27
        have hb27 : allP (envP rows own) rows.length rows.length = [] := by simpa using b27
        refine EvL.skip ?_
        refine blockL_normal ?_
        refine thenL_normal ?_
        refine EvL.seq ?_
        refine EvL.region ?_
        refine Rn.val (St.assign rfl) rfl ?_
        refine Rn.val (St.assign rfl) rfl ?_
        refine Rn.done (.cons 4 _ (.cons 5 _ .nil)) ⟨⟨rfl, rfl⟩, ⟨rfl, rfl⟩, trivial⟩ ?_
        refine thenL_normal ?_
        refine EvL.ret ?_
        refine endL_ret rfl ?_
        exact ⟨by rw [if_neg (fun e => e hb24), if_neg (fun e => e hb27)]; rfl, KB.kept hw⟩

end
end
end Go.Proofs.Ytllldiokcnheiaa.Sh
