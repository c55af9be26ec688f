/- Append, operators, copy, conversions on plain values: each is shown to follow the model's, for every world that the plain memory stands for. -/
import Derived.Test.YtllldiokcnheiaaAb1
import Derived.Laws.Strings
import Derived.Laws.StructEq
import Derived.MapKept

namespace Go.Proofs.Ytllldiokcnheiaa.Ab
noncomputable section
section
variable {P : Program} {w : World} {μ : Places} {h h' : AH}

theorem Did.of_run {s : Sem Value} {a : AV} {h' : AH} {ν : Places} {v : Value} {w' : World} (h1 : s.run P w = .ok v w') (h2 : VRel ν a v) (h3 : RelH ν h' w') (h4 : Adv μ h w ν h' w') : Did P μ h w s a h' :=
  ⟨ν, v, w', h1, h2, h3, h4⟩

/-! ### The first cells of a slice -/

def firstA (sz n : Nat) (x : AV) (h : AH) : Option (List AV) :=
  match x with
  | .sl b off len _ sz' _ =>
    match Nat.beq sz sz', Nat.ble n len with
    | true, true => match Nat.beq (n * sz) 0 with
      | true => some []
      | false => h.loadL b off (n * sz)
    | _, _ => none
  | .nils => match Nat.beq n 0 with
    | true => some []
    | false => none
  | _ => none

theorem firstA_run {sz n : Nat} {x : AV} {vx : Value} {as : List AV} (hr : RelH μ h w) (hx : VRel μ x vx) (hf : firstA sz n x h = some as) :
    ∃ vs : List Value, VRels μ as vs ∧ vs.length = n * sz ∧ ∀ w' : World, w'.heap = w.heap → (Builtin.firstCells sz n vx).run P w' = .ok vs.toArray w' := by
  unfold firstA at hf
  split at hf <;> try cases hf
  · rename_i b off len cap sz' ex
    split at hf <;> try cases hf
    rename_i h1 h2
    have h1' := Nat.eq_of_beq_eq_true h1
    have h2' := Nat.le_of_ble_eq_true h2
    subst h1'
    cases hx with
    | sl hb hA hl hc he hz =>
      rename_i c L A
      split at hf
      · rename_i h3
        cases hf
        have h3' := Nat.eq_of_beq_eq_true h3
        exact ⟨[], .nil, by simp [h3'], fun w' _ => by simp [Builtin.firstCells, h3', loadCells, loadCellsFrom]⟩
      · rename_i h3
        have h3' := Nat.ne_of_beq_eq_false h3
        obtain ⟨M, vs, hM, hv, hrun, hlen⟩ := hr.loadL P hf
        rw [hb] at hM; cases hM
        have hn : n ≠ 0 := fun e => by subst e; simp at h3'
        have hA' := hA (by omega)
        subst hA'
        exact ⟨vs, hv, by rw [← hv.length, hlen], fun w' hw => by simpa [Builtin.firstCells] using hrun w' hw⟩
  · split at hf <;> cases hf
    rename_i h1
    have h1' := Nat.eq_of_beq_eq_true h1
    subst h1'
    cases hx
    exact ⟨[], .nil, by simp, fun w' _ => by simp [Builtin.firstCells]⟩

def lenA : AV → Option Nat
  | .sl _ _ len _ _ _ => some len
  | .nils => some 0
  | .str s => some s.size
  | _ => none

theorem lenA_run {x : AV} {vx : Value} {n : Nat} (hx : VRel μ x vx) (hl : lenA x = some n) (w : World) : (Builtin.lenOf vx).run P w = .ok n w := by
  unfold lenA at hl
  split at hl <;> cases hl <;> cases hx <;> simp [Builtin.lenOf]

/-! ### append -/

def isInt (P : Program) (t : TypeId) : Option Bool :=
  match P.underlying t with
  | some (.int _) => some true
  | some (.slice _) => some false
  | _ => none

/-- What is appended: how many elements, and their cells. -/
def newA (P : Program) (zeros : Bool) (e : TypeId) (sz : Nat) (x : AV) (h : AH) : Option (Nat × List AV) :=
  match zeros with
  | true => match natA x, zeroA P e with
    | some m, some z => match Nat.beq (cellsA z).length sz with
      | true => some (m, zerosA (cellsA z) (m * sz))
      | false => none
    | _, _ => none
  | false => match lenA x with
    | some m => match firstA sz m x h with
      | some l => some (m, l)
      | none => none
    | none => none

def appendA (P : Program) (sT xT : TypeId) (s x : AV) (h : AH) : Option (AV × AH) :=
  match elemA P sT with
  | none => none
  | some e =>
    match szA P e, byA P e, isInt P xT with
    | some sz, some by_, some zeros =>
      match newA P zeros e sz x h, Nat.ble by_ 65536, Nat.beq sz 0, zeroA P e with
      | some (m, new), true, false, some z =>
        match Nat.beq (cellsA z).length sz with
        | false => none
        | true =>
        match s with
        | .nils =>
          match Nat.beq m 0, Nat.ble m 1048576 with
          | true, _ => some (.nils, h)
          | false, true => some (.sl h.next 0 m m sz false, h.new new)
          | false, false => none
        | .sl b off len cap sz' ex =>
          match Nat.beq sz sz', Nat.ble (len + m) 1048576, Nat.beq m 0, Nat.ble (len + m) cap, ex with
          | true, true, true, _, _ => some (.sl b off len cap sz ex, h)
          | true, true, false, true, _ =>
            match h.storeL b (off + len * sz) new with
            | some h' => some (.sl b off (len + m) cap sz ex, h')
            | none => none
          | true, true, false, false, true =>
            match firstA sz len s h with
            | some old => some (.sl h.next 0 (len + m) (len + m) sz false, h.new (old ++ new))
            | none => none
          | true, true, false, false, false =>
            match h.loadL b off (len * sz), allFlat new with
            | some old, true =>
              match h.grow b off (len * sz) (old ++ new) with
              | some h' => some (.sl h.next 0 (len + m) (len + m) sz false, h')
              | none => none
            | _, _ => none
          | _, _, _, _, _ => none
        | _ => none
      | _, _, _, _ => none
    | _, _, _ => none

/-- The two roads of the model's append, as plain equations. -/
structure AppendFacts (P : Program) (w : World) (sT xT e : TypeId) (sz by_ : Nat) (vx : Value) (m : Nat) (news : List Value) (zv : Value) : Prop where
  here : ∀ (base : Option Addr) (sLen sCap : Nat) (ty : TypeId) (w' : World), sLen + m ≤ sCap →
    (match base with | some a => (storeCells (a.add (sLen * sz)) news).run P w = .ok () w' | none => w' = w) →
    (Builtin.append_ #[sT, xT] ty #[.slice base sLen sCap, vx]).run P w = .ok (.slice base (sLen + m) sCap) w'
  out : ∀ (base : Option Addr) (sLen sCap : Nat) (ty : TypeId) (olds : List Value), sCap < sLen + m → sLen + m ≤ 1048576 →
    (Builtin.firstCells sz sLen (.slice base sLen sCap)).run P w.drew = .ok olds.toArray w.drew →
    (Builtin.append_ #[sT, xT] ty #[.slice base sLen sCap, vx]).run P w =
      .ok (.slice (some ⟨w.heap.size, 0, none⟩) (sLen + m) (grownCap w (sLen + m) sCap e))
        (w.drew.alloc (.cells (olds.toArray ++ news.toArray ++ Builtin.zeroCells zv.cells (grownCap w (sLen + m) sCap e - (sLen + m))) e))

set_option maxHeartbeats 4000000 in
theorem appendFacts {sT xT e : TypeId} {sz by_ : Nat} {vx : Value} {x : AV} {m : Nat} {new : List AV} {zeros : Bool} (hr : RelH μ h w) (hx : VRel μ x vx)
    (he : P.underlying sT = some (.slice e)) (hsz : szA P e = some sz) (hby : byA P e = some by_) (hz : isInt P xT = some zeros) (hn : newA P zeros e sz x h = some (m, new))
    (hb : by_ ≤ 65536) {zv : Value} (hzv : ∀ w, (zeroValue e).run P w = .ok zv w) :
    ∃ news : List Value, VRels μ new news ∧ news.length = m * sz ∧ AppendFacts P w sT xT e sz by_ vx m news zv := by
  unfold byA at hby
  split at hby <;> cases hby
  rename_i ie hie
  have hsz' : ie.size = sz := by unfold szA at hsz; rw [hie] at hsz; cases hsz; rfl
  have hzn : ie.zero = some zv := by
    have := hzv w
    cases hz0 : ie.zero with
    | none => simp [zeroValue, typeInfo, hie, hz0] at this
    | some z => simp [zeroValue, typeInfo, hie, hz0] at this; rw [this]
  have fits : ∀ (sLen sCap : Nat), sCap < sLen + m → sLen + m ≤ 1048576 → ¬ (281474976710656 < Builtin.nextslicecap (sLen + m) sCap * ie.bytes) := by
    intro sLen sCap h1 h2
    have h3 : (sLen + m) * ie.bytes ≤ 1048576 * 65536 := Nat.mul_le_mul h2 hb
    have := growslice_fits (bytes := ie.bytes) h1 (by omega)
    omega
  unfold isInt at hz
  cases zeros with
  | false =>
    have hxu : ∃ e', P.underlying xT = some (.slice e') := by
      split at hz <;> cases hz
      rename_i e' hu
      exact ⟨e', hu⟩
    obtain ⟨e', hd⟩ := hxu
    unfold newA at hn
    dsimp only at hn
    split at hn <;> try cases hn
    rename_i m' hm
    split at hn <;> cases hn
    rename_i l hl
    obtain ⟨vs, hv, hlen, hrunw⟩ := firstA_run (P := P) hr hx hl
    have hrun := hrunw w rfl
    have hrun' := hrunw w.drew rfl
    have hlx := lenA_run (P := P) hx hm
    refine ⟨vs, hv, hlen, ⟨?_, ?_⟩⟩
    · intro base sLen sCap ty w' hle hst
      cases base with
      | none =>
        dsimp only at hst; subst hst
        simp [Builtin.append_, run_underlying he, run_underlying hd, sizeOf, typeInfo, hie, hsz', hlx, hle, hrun]
      | some a =>
        dsimp only at hst
        simp [Builtin.append_, run_underlying he, run_underlying hd, sizeOf, typeInfo, hie, hsz', hlx, hle, hrun, hst]
    · intro base sLen sCap ty olds hlt hsm hold
      have hnle : ¬ (sLen + m ≤ sCap) := by omega
      have hf := fits sLen sCap hlt hsm
      have h63 : ¬ (9223372036854775807 < ((sLen : Int) + (m : Int))) := by omega
      simp [Builtin.append_, run_underlying he, run_underlying hd, sizeOf, typeInfo, hie, hsz', hlx, hnle, h63, hf, zeroValue, Question.forced, newRow, grownCap, hold, hrun', hzn]
      congr 2
      apply Array.ext'
      simp [List.append_assoc]
  | true =>
    have hxu : ∃ k, P.underlying xT = some (.int k) := by
      split at hz <;> cases hz
      rename_i k hu
      exact ⟨k, hu⟩
    obtain ⟨k, hd⟩ := hxu
    unfold newA at hn
    dsimp only at hn
    split at hn <;> try cases hn
    rename_i m' z hm hzz
    split at hn <;> cases hn
    rename_i hzl
    have hzl' := Nat.eq_of_beq_eq_true hzl
    obtain ⟨rfl, hm1⟩ := natA_rel hm hx
    obtain ⟨zv', hzv', hzrel⟩ := run_zeroA hzz w μ
    have e : zv' = zv := by rw [hzv w] at hzv'; cases hzv'; rfl
    subst e
    have hzc := hzrel.cells
    have hzcl := hzc.length
    simp at hzcl
    have hwm : IntKind.i64.wrap (m : Int) = m := by rw [IntKind.wrap_i64]; omega
    have hm0 : ¬ ((m : Int) < 0) := by omega
    have hbig : ¬ (281474976710656 < (m : Int) * (ie.bytes : Int)) := by
      have h1 : m * ie.bytes ≤ 1048576 * 65536 := Nat.mul_le_mul hm1 hb
      rw [← Int.natCast_mul]; omega
    by_cases h0 : m * sz = 0
    · have e0 : zerosA (cellsA z) (m * sz) = [] := by rw [h0]; rfl
      rw [e0]
      refine ⟨[], .nil, by simp [h0], ⟨?_, ?_⟩⟩
      · intro base sLen sCap ty w' hle hst
        cases base with
        | none =>
          dsimp only at hst; subst hst
          simp [Builtin.append_, run_underlying he, run_underlying hd, sizeOf, typeInfo, hie, hsz', hle, asInt, asIntOf, hwm, hm0, hbig, h0]
        | some a =>
          dsimp only at hst
          simp [Builtin.append_, run_underlying he, run_underlying hd, sizeOf, typeInfo, hie, hsz', hle, asInt, asIntOf, hwm, hm0, hbig, h0, hst]
      · intro base sLen sCap ty olds hlt hsm hold
        have hnle : ¬ (sLen + m ≤ sCap) := by omega
        have hf := fits sLen sCap hlt hsm
        have h63 : ¬ (9223372036854775807 < ((sLen : Int) + (m : Int))) := by omega
        simp [Builtin.append_, run_underlying he, run_underlying hd, sizeOf, typeInfo, hie, hsz', hnle, h63, hf, zeroValue, Question.forced, newRow, grownCap, hold, hzn, asInt, asIntOf, hwm, hm0, hbig, h0]
    · have hpos : 0 < (cellsA z).length := by
        rcases Nat.eq_zero_or_pos sz with e | e
        · subst e; simp at h0
        · omega
      have e1 : m * zv'.cells.size = m * sz := by rw [← hzcl, hzl']
      have hnews : VRels μ (zerosA (cellsA z) (m * sz)) (Builtin.zeroCells zv'.cells m).toList := by
        unfold Builtin.zeroCells
        rw [e1]
        exact zerosA_rel hzc _ hpos
      refine ⟨_, hnews, by simp [Builtin.zeroCells, e1], ⟨?_, ?_⟩⟩
      · intro base sLen sCap ty w' hle hst
        cases base with
        | none =>
          dsimp only at hst; subst hst
          simp [Builtin.append_, run_underlying he, run_underlying hd, sizeOf, typeInfo, hie, hsz', hle, asInt, asIntOf, hwm, hm0, hbig, h0, zeroValue, hzn]
        | some a =>
          dsimp only at hst
          simp [Builtin.append_, run_underlying he, run_underlying hd, sizeOf, typeInfo, hie, hsz', hle, asInt, asIntOf, hwm, hm0, hbig, h0, hst, zeroValue, hzn]
      · intro base sLen sCap ty olds hlt hsm hold
        have hnle : ¬ (sLen + m ≤ sCap) := by omega
        have hf := fits sLen sCap hlt hsm
        have h63 : ¬ (9223372036854775807 < ((sLen : Int) + (m : Int))) := by omega
        simp [Builtin.append_, run_underlying he, run_underlying hd, sizeOf, typeInfo, hie, hsz', hnle, h63, hf, zeroValue, Question.forced, newRow, grownCap, hold, hzn, asInt, asIntOf, hwm, hm0, hbig, h0]

theorem appendA_run {sT xT ty : TypeId} {s x a : AV} {vs vx : Value} (hr : RelH μ h w) (hs : VRel μ s vs) (hx : VRel μ x vx) (ha : appendA P sT xT s x h = some (a, h')) (hf : Fresh μ h h') :
    Did P μ h w (Builtin.append_ #[sT, xT] ty #[vs, vx]) a h' := by
  unfold appendA at ha
  split at ha <;> try cases ha
  rename_i e he
  split at ha <;> try cases ha
  rename_i sz by_ zeros hsz hby hz
  split at ha <;> try cases ha
  rename_i m new z hn h1 h2 hzz
  split at ha <;> try cases ha
  rename_i hzl
  have hzl' := Nat.eq_of_beq_eq_true hzl
  have hb := Nat.le_of_ble_eq_true h1
  have hsz0 := Nat.ne_of_beq_eq_false h2
  have hzrel0 : ∃ zv, ∀ w, (zeroValue e).run P w = .ok zv w := by
    obtain ⟨v, hv, _⟩ := run_zeroA hzz w μ
    refine ⟨v, fun w' => ?_⟩
    unfold zeroA at hzz
    split at hzz <;> try cases hzz
    rename_i i hi
    split at hzz <;> try cases hzz
    rename_i z' hz'
    simp [zeroValue, typeInfo, hi, hz'] at hv ⊢
    exact hv
  obtain ⟨zv, hzv⟩ := hzrel0
  have hzc : zv.cells.size = sz := by
    obtain ⟨v, hv, hrel⟩ := run_zeroA hzz w μ
    rw [hzv w] at hv; cases hv
    have := hrel.cells.length
    simp at this
    omega
  obtain ⟨news, hnews, hnl, hfacts⟩ := appendFacts hr hx (elemA_eq he) hsz hby hz hn hb hzv
  have fresh_row : ∀ (base : Option Addr) (sLen sCap : Nat) (olds : List Value) (old : List AV), VRels μ old olds → olds.length = sLen * sz → sCap < sLen + m → sLen + m ≤ 1048576 →
      (∀ w' : World, w'.heap = w.heap → (Builtin.firstCells sz sLen (.slice base sLen sCap)).run P w' = .ok olds.toArray w') →
      ∃ c : Array Value, (Builtin.append_ #[sT, xT] ty #[.slice base sLen sCap, vx]).run P w = .ok (.slice (some ⟨w.heap.size, 0, none⟩) (sLen + m) (grownCap w (sLen + m) sCap e)) (w.drew.alloc (.cells c e)) ∧
        (olds ++ news).length ≤ c.size ∧ (∀ (i : Nat) (v : Value), (olds ++ news)[i]? = some v → c[i]? = some v) ∧ sLen + m ≤ grownCap w (sLen + m) sCap e ∧ grownCap w (sLen + m) sCap e * sz ≤ c.size := by
    intro base sLen sCap olds old hvo hol hlt hsm hfc
    have hge := grownCap_ge w (sLen + m) sCap e
    refine ⟨_, hfacts.out base sLen sCap ty olds hlt hsm (hfc w.drew rfl), ?_, ?_, hge, ?_⟩
    · simp
    · intro i v hi
      rw [Array.getElem?_append_left (by have := (List.getElem?_eq_some_iff.1 hi).1; simpa using this)]
      simpa using hi
    · simp only [Array.size_append, List.size_toArray, size_zeroCells, hzc, hol, hnl, ← Nat.add_mul]
      exact Nat.mul_le_mul_right _ (by omega)
  split at ha
  · -- nil
    cases hs
    split at ha <;> cases ha
    · rename_i h3
      have hm0 := Nat.eq_of_beq_eq_true h3
      subst hm0
      exact Did.same hr (hfacts.here none 0 0 ty w (by omega) rfl) .nils
    · rename_i h3 h4
      have hm0 := Nat.ne_of_beq_eq_false h3
      have hm1 := Nat.le_of_ble_eq_true h4
      obtain ⟨c, hrun, hl, hc, hge, hcs⟩ := fresh_row none 0 0 [] [] .nil (by simp) (by omega) (by omega) (fun w' _ => run_firstCells_none w' sz 0 0 0)
      simp only [Nat.zero_add, List.nil_append] at hrun hl hc hge hcs
      exact did_newSlice (t := e) (c := c) hr hf hnews hl hc hge hge (fun h => by cases h) hcs w.drew (.inr rfl) hrun
  · rename_i b off len cap sz' ex
    split at ha <;> try cases ha
    · -- nothing is appended
      rename_i h3 h4 h5
      have h3' := Nat.eq_of_beq_eq_true h3
      subst h3'
      have hm0 := Nat.eq_of_beq_eq_true h5
      subst hm0
      cases hs with
      | sl hb' hA hl hc he' hz' =>
        rename_i c L A
        have hn0 : news = [] := List.eq_nil_of_length_eq_zero (by simpa using hnl)
        subst hn0
        have := hfacts.here (some A) len c ty w (by omega) (by simp [storeCells])
        exact Did.same hr this (.sl hb' hA hl hc he' hz')
    · -- in place, for sure
      rename_i h3 h4 h5 h6
      have h3' := Nat.eq_of_beq_eq_true h3
      subst h3'
      have h4' := Nat.le_of_ble_eq_true h4
      have h5' := Nat.ne_of_beq_eq_false h5
      have h6' := Nat.le_of_ble_eq_true h6
      split at ha <;> cases ha
      rename_i hst
      cases hs with
      | sl hb' hA hl hc he' hz' =>
        rename_i c L A
        have hA' := hA (by omega)
        subst hA'
        obtain ⟨M, w', hM, hrun, hr', had⟩ := hr.storeL P hst hnews
        rw [hb'] at hM; cases hM
        have := hfacts.here (some ⟨L.blk, L.off + off, none⟩) len c ty w' (by omega) (by dsimp only; rw [addr_add, Nat.add_assoc]; exact hrun)
        exact Did.of_run this (.sl hb' (fun _ => rfl) (by omega) hc he' hz') hr' had
    · -- a new array, for sure
      rename_i h3 h4 h5 h6
      have h3' := Nat.eq_of_beq_eq_true h3
      subst h3'
      have h4' := Nat.le_of_ble_eq_true h4
      have h6' : ¬ len + m ≤ cap := fun h => by rw [Nat.ble_eq_true_of_le h] at h6; cases h6
      split at ha <;> cases ha
      rename_i old hold
      cases hs with
      | sl hb' hA hl hc he' hz' =>
        rename_i c L A
        have hcap := he' rfl
        subst hcap
        obtain ⟨olds, hvo, hol, hfc⟩ := firstA_run (P := P) hr (.sl hb' hA hl hc he' hz') hold
        obtain ⟨cc, hrun, hl', hc', hge, hcs⟩ := fresh_row (some A) len c olds old hvo hol (by omega) h4' hfc
        exact did_newSlice (t := e) (c := cc) hr hf (hvo.append hnews) hl' hc' hge hge (fun h => by cases h) hcs w.drew (.inr rfl) hrun
    · -- one or the other
      rename_i h3 h4 h5 h6
      have h3' := Nat.eq_of_beq_eq_true h3
      subst h3'
      have h4' := Nat.le_of_ble_eq_true h4
      have h5' := Nat.ne_of_beq_eq_false h5
      split at ha <;> try cases ha
      rename_i old hold hflat
      split at ha <;> cases ha
      rename_i hgrow
      have hnx : μ h.next = none := by
        refine hf _ (Nat.le_refl _) ?_
        have := (AH.grow_spec hr hgrow).next
        omega
      cases hs with
      | sl hb' hA hl hc he' hz' =>
        rename_i c L A
        by_cases hroom : len + m ≤ c
        · have hA' := hA (by omega)
          subst hA'
          have hz'' := hz' rfl (by omega)
          have hle : (len + m) * sz ≤ c * sz := Nat.mul_le_mul_right _ hroom
          rw [Nat.add_mul] at hle
          obtain ⟨w', hrun, hr', had⟩ := hr.growHere P hnx hold hgrow hnews hflat hb' (by omega)
          have := hfacts.here (some ⟨L.blk, L.off + off, none⟩) len c ty w' hroom (by dsimp only; rw [addr_add]; exact hrun)
          refine Did.of_run this (.sl (upd_same μ h.next _) (fun _ => by simp) hroom hroom (fun h => by cases h) (fun _ _ => by simpa using hz'')) hr' had
        · have hfa : ∃ olds, VRels μ old olds ∧ olds.length = len * sz ∧ ∀ w' : World, w'.heap = w.heap → (Builtin.firstCells sz len (.slice (some A) len c)).run P w' = .ok olds.toArray w' := by
            obtain ⟨M, vs, hM, hv, hrun, hlen⟩ := hr.loadL P hold
            rw [hb'] at hM; cases hM
            refine ⟨vs, hv, by rw [← hv.length, hlen], fun w' hw => ?_⟩
            by_cases h0 : len = 0
            · subst h0
              have : vs = [] := by
                have := hv.length
                simp at hlen
                rw [hlen] at this
                exact List.eq_nil_of_length_eq_zero this.symm
              subst this
              simp [Builtin.firstCells, loadCells, loadCellsFrom]
            · have hA' := hA (by omega)
              subst hA'
              simpa [Builtin.firstCells] using hrun w' hw
          obtain ⟨olds, hvo, hol, hfc⟩ := hfa
          obtain ⟨cc, hrun, hl', hc', hge, hcs⟩ := fresh_row (some A) len c olds old hvo hol (by omega) h4' hfc
          obtain ⟨g1, g2⟩ := hr.drew.growNew hnx hgrow (hvo.append hnews) cc e hl' hc'
          refine Did.of_run hrun (.sl (upd_same μ h.next _) (fun _ => by simp) hge hge (fun h => by cases h) (fun _ _ => by simpa using hcs)) g1 (Adv.drew.trans g2 hr)
  · cases ha

end
end
end Go.Proofs.Ytllldiokcnheiaa.Ab

namespace Go.Proofs.Ytllldiokcnheiaa.Ab
noncomputable section
section
variable {P : Program} {w : World} {μ : Places} {h h' : AH}

/-! ### Equality -/

def eqInts : List AV → List AV → Option Bool
  | [], [] => some true
  | .int k a :: r, .int k' b :: s =>
    match decide (k = k') with
    | false => none
    | true => match eqF a b with
      | true => eqInts r s
      | false => some false
  | _, _ => none

def isIntT (P : Program) (t : TypeId) : Bool :=
  match P.underlying t with
  | some (.int _) => true
  | _ => false

theorem isIntT_eq {t : TypeId} (hi : isIntT P t = true) : ∃ k, P.underlying t = some (.int k) := by
  unfold isIntT at hi
  split at hi
  · rename_i k hk; exact ⟨k, hk⟩
  · cases hi

theorem run_part_one {t : TypeId} {k : IntKind} (ht : P.underlying t = some (.int k)) (cs : Array Value) (i : Nat) (v : Value) (hv : cs[i]? = some v) (w : World) :
    (part t cs i).run P w = .ok v w := by
  simp [part, isAgg, run_underlying ht, hv]

theorem eqInts_loop {e : TypeId} {k0 : IntKind} (he : P.underlying e = some (.int k0)) (d : Nat) (xs ys : Array Value) (w : World) :
    ∀ (as bs : List AV) (vs ws : List Value) (i : Nat) (r : Bool), eqInts as bs = some r → VRels μ as vs → VRels μ bs ws →
      (∀ (j : Nat) (v : Value), vs[j]? = some v → xs[i + j]? = some v) → (∀ (j : Nat) (v : Value), ws[j]? = some v → ys[i + j]? = some v) →
      ∃ z : Option Bool × Unit, (forIn (List.range' i vs.length) ((none, ()) : Option Bool × Unit) (fun i _ => do
        let a ← part e xs (i * 1)
        let b ← part e ys (i * 1)
        let c ← Op.equalIn (d + 1) e a b
        if (!c) = true then pure (.done (some false, ())) else pure (.yield (none, ()))) : Sem (Option Bool × Unit)).run P w = .ok z w ∧ z.1.getD true = r
  | [], [], _, _, _, _, h, .nil, .nil, _, _ => by
    cases h
    exact ⟨(none, ()), by simp, rfl⟩
  | [], _ :: _, _, _, _, _, h, _, _, _, _ => by simp [eqInts] at h
  | .int k a :: r, .int k' b :: s, _, _, i, res, h, .cons (v := v) (vs := vs) hv hvs, .cons (v := v') (vs := ws) hw hws, hx, hy => by
    unfold eqInts at h
    split at h
    · cases h
    · rename_i hk
      have hk' := of_decide_eq_true hk
      subst hk'
      cases hv; cases hw
      have h1 := run_part_one (P := P) he xs i _ (by simpa using hx 0 _ rfl) w
      have h2 := run_part_one (P := P) he ys i _ (by simpa using hy 0 _ rfl) w
      have h3 := run_equalIn_int (P := P) w d e k k0 a b he
      simp only [List.length_cons, List.range'_succ, List.forIn_cons, Sem.run_bind, Nat.mul_one, h1, h2, h3, Result.andThen_ok]
      split at h
      · rename_i hab
        have hab' := eqF_true hab
        subst hab'
        have ih := eqInts_loop he d xs ys w r s vs ws (i + 1) res h hvs hws (fun j v hj => by have := hx (j + 1) v (by simpa using hj); rwa [show i + (j + 1) = i + 1 + j by omega] at this)
          (fun j v hj => by have := hy (j + 1) v (by simpa using hj); rwa [show i + (j + 1) = i + 1 + j by omega] at this)
        simpa using ih
      · rename_i hab
        rw [eqF_eq] at hab
        cases h
        refine ⟨(some false, ()), ?_, rfl⟩
        simp [hab]

theorem run_eqArr {t e : TypeId} {len : Nat} {k0 : IntKind} (ht : P.underlying t = some (.array len e)) (he : P.underlying e = some (.int k0)) (hs : szA P e = some 1) (d : Nat)
    {as bs : List AV} {vs ws : List Value} {r : Bool} (h : eqInts as bs = some r) (hv : VRels μ as vs) (hw : VRels μ bs ws) (hl : as.length = len) (w : World) :
    (Op.equalIn (d + 2) t (.agg vs.toArray) (.agg ws.toArray)).run P w = .ok r w := by
  obtain ⟨z, hz, hzr⟩ := eqInts_loop (P := P) he d vs.toArray ws.toArray w as bs vs ws 0 r h hv hw (by simp) (by simp)
  have hlen : vs.length = len := by rw [← hv.length, hl]
  rw [hlen] at hz
  unfold Op.equalIn
  simp only [Sem.run_bind, run_underlying ht, Result.andThen_ok, run_szA hs]
  rw [Std.Legacy.Range.forIn_eq_forIn_range']
  simp only [Std.Legacy.Range.size]
  rw [show (len - 0 + 1 - 1) / 1 = len by simp, hz]
  obtain ⟨z1, z2⟩ := z
  simp only [Result.andThen_ok]
  cases z1 with
  | none => simp at hzr; subst hzr; rfl
  | some b => simp at hzr; subst hzr; rfl

def eqA (P : Program) (t : TypeId) (x y : AV) : Option Bool :=
  match P.underlying t with
  | none => none
  | some d =>
    match d, x, y with
    | .bool, .bool a, .bool b => some (match a, b with | true, true => true | false, false => true | _, _ => false)
    | .pointer _, .nilp, .nilp => some true
    | .pointer _, .nilp, .ptr _ _ => some false
    | .pointer _, .ptr _ _, .nilp => some false
    | .slice _, .nils, .nils => some true
    | .slice _, .nils, .sl .. => some false
    | .slice _, .sl .., .nils => some false
    | .map _ _, .nilm, .nilm => some true
    | .map _ _, .nilm, .map _ => some false
    | .map _ _, .map _, .nilm => some false
    | .func _ _ _, .nilf, .nilf => some true
    | .func _ _ _, .nilf, .fn .. => some false
    | .func _ _ _, .fn .., .nilf => some false
    | .interface _, .nili, .iface _ _ => some false
    | .interface _, .iface _ _, .nili => some false
    | .array len e, .agg as, .agg bs =>
      match isIntT P e, szA P e, Nat.beq as.length len, P.eqGuardType P.depth t with
      | true, some 1, true, false => eqInts as bs
      | _, _, _, _ => none
    | _, _, _ => none

theorem eq_fin {t : TypeId} {vx vy : Value} {r : Bool} {xo yo : Operand} (h1 : (Op.equal t vx vy).run P w = .ok r w)
    (e1 : (do eqGuard .eql t xo yo vx vy; binOp .eql t vx vy : Sem Value) = (Op.equal t vx vy >>= fun b => pure (.bool b)))
    (e2 : (do eqGuard .neq t xo yo vx vy; binOp .neq t vx vy : Sem Value) = (Op.equal t vx vy >>= fun b => pure (.bool (!b)))) (op : BinOp) (hop : op = .eql ∨ op = .neq) :
    (do eqGuard op t xo yo vx vy; binOp op t vx vy : Sem Value).run P w = .ok (.bool (if op = .eql then r else !r)) w := by
  rcases hop with rfl | rfl
  · rw [e1, Sem.run_bind, h1]; rfl
  · rw [e2, Sem.run_bind, h1]; rfl

theorem eqA_run {t : TypeId} {x y : AV} {vx vy : Value} {r : Bool} (hx : VRel μ x vx) (hy : VRel μ y vy) (he : eqA P t x y = some r) (op : BinOp) (hop : op = .eql ∨ op = .neq) (xo yo : Operand) (w : World) :
    (do eqGuard op t xo yo vx vy; binOp op t vx vy : Sem Value).run P w = .ok (.bool (if op = .eql then r else !r)) w := by
  unfold eqA at he
  split at he
  · cases he
  · rename_i d hd
    have eqd : ∀ vx vy, Op.equal t vx vy = Op.equalIn (9999 + 1) t vx vy := fun _ _ => rfl
    split at he
    · rename_i a b
      cases hx; cases hy; cases he
      refine eq_fin ?_ rfl rfl op hop
      rw [run_equal_bool w t a b hd]
      cases a <;> cases b <;> rfl
    iterate 14
      · cases hx; cases hy; cases he
        refine eq_fin ?_ rfl rfl op hop
        rw [eqd]
        generalize 9999 = dd
        simp only [Op.equalIn, Sem.run_bind, run_underlying hd, Result.andThen_ok, Sem.run_pure, Option.isNone]
    · rename_i len e as bs
      split at he <;> try cases he
      rename_i h1 h2 h3 h4
      obtain ⟨k0, hk0⟩ := isIntT_eq h1
      have h3' := Nat.eq_of_beq_eq_true h3
      cases hx with
      | agg hxs =>
        cases hy with
        | agg hys =>
          rename_i xs ys
          have hg := run_eqGuard_agg w op t xo yo xs.toArray ys.toArray h4 (P := P)
          have heq := run_eqArr hd hk0 h2 9998 he hxs hys h3' w
          rw [Sem.run_bind, hg, Result.andThen_ok]
          rcases hop with rfl | rfl
          · rw [run_eql_struct, heq]; rfl
          · rw [run_neq_struct, heq]; rfl
    · cases he

/-! ### Operators -/

def notB : Bool → Bool
  | true => false
  | false => true

def strOp (op : BinOp) (a b : ByteArray) : Option AV :=
  match op with
  | .eql => some (.bool (a.data.toList == b.data.toList))
  | .neq => some (.bool (!(a.data.toList == b.data.toList)))
  | .add => match Nat.ble (a.size + b.size) 1048576 with
    | true => some (.str (a ++ b))
    | false => none
  | _ => none

def binA (P : Program) (op : BinOp) (t : TypeId) (x y : AV) : Option AV :=
  match x, y with
  | .int k a, .int k' b => intOp op k k' a b
  | .str a, .str b => strOp op a b
  | x, y =>
    match op with
    | .eql => match eqA P t x y with
      | some r => some (.bool r)
      | none => none
    | .neq => match eqA P t x y with
      | some r => some (.bool (notB r))
      | none => none
    | _ => none

theorem binA_run {op : BinOp} {t : TypeId} {x y a : AV} {vx vy : Value} (hx : VRel μ x vx) (hy : VRel μ y vy) (hb : binA P op t x y = some a) (xo yo : Operand) (w : World) :
    ∃ v, (do eqGuard op t xo yo vx vy; binOp op t vx vy : Sem Value).run P w = .ok v w ∧ VRel μ a v := by
  unfold binA at hb
  split at hb
  · rename_i k a k' b
    cases hx; cases hy
    obtain ⟨v, hv, hr⟩ := intOp_run hb P w t μ
    refine ⟨v, ?_, hr⟩
    have : (eqGuard op t xo yo (.int k a) (.int k' b)).run P w = .ok () w := by cases op <;> rfl
    rw [Sem.run_bind, this, Result.andThen_ok, hv]
  · rename_i a b
    cases hx; cases hy
    have hg : (eqGuard op t xo yo (.string a) (.string b)).run P w = .ok () w := by cases op <;> rfl
    rw [Sem.run_bind, hg, Result.andThen_ok]
    unfold strOp at hb
    split at hb <;> try cases hb
    · refine ⟨_, ?_, .bool _⟩
      show (Op.stringOp .eql a b).run P w = _
      simp [Op.stringOp, ByteArray.toList_eq]
    · refine ⟨_, ?_, .bool _⟩
      show (Op.stringOp .neq a b).run P w = _
      simp [Op.stringOp, ByteArray.toList_eq]
    · split at hb <;> cases hb
      rename_i hle
      have hle' := Nat.le_of_ble_eq_true hle
      refine ⟨_, ?_, .str _⟩
      show (Op.stringOp .add a b).run P w = _
      have hm : ¬ (((a.size + b.size : Nat) : Int) > IntKind.i64.max) := by
        have : IntKind.i64.max = 9223372036854775807 := by decide
        omega
      simp only [Op.stringOp]
      rw [if_neg hm]
      rfl
  · split at hb <;> try cases hb
    · split at hb <;> cases hb
      rename_i r hr
      exact ⟨_, eqA_run hx hy hr .eql (.inl rfl) xo yo w, by simpa using VRel.bool r⟩
    · split at hb <;> cases hb
      rename_i r hr
      refine ⟨_, eqA_run hx hy hr .neq (.inr rfl) xo yo w, ?_⟩
      have : notB r = !r := by cases r <;> rfl
      rw [this]
      exact .bool _

def unA (op : UnOp) (x : AV) : Option AV :=
  match op, x with
  | .not, .bool b => some (.bool (notB b))
  | .neg, .int k n => some (.int k (wrapF k (Int.sub 0 n)))
  | .xor, .int k n => match bitsF .xor k (match k.signed with | true => -1 | false => k.max) n with
    | some r => some (.int k r)
    | none => none
  | _, _ => none

theorem unA_run {op : UnOp} {x a : AV} {vx : Value} (hx : VRel μ x vx) (hu : unA op x = some a) (w : World) : ∃ v, (Op.unary op vx).run P w = .ok v w ∧ VRel μ a v := by
  unfold unA at hu
  split at hu <;> try cases hu
  · rename_i b
    cases hx
    have : notB b = !b := by cases b <;> rfl
    rw [this]
    exact ⟨_, rfl, .bool _⟩
  · cases hx
    rw [wrapF_eq]
    exact ⟨_, rfl, .int _ _⟩
  · rename_i k n
    cases hx
    split at hu <;> cases hu
    rename_i r hr
    refine ⟨_, ?_, .int _ _⟩
    have e : (match k.signed with | true => (-1 : Int) | false => k.max) = if k.signed then -1 else k.max := by cases k <;> rfl
    rw [e] at hr
    exact bits_run hr P w

/-! ### len, cap, min, max -/

def lenOfA (P : Program) (t : TypeId) (x : AV) (h : AH) : Option AV :=
  match P.underlying t, x with
  | some .string, .str s => some (.int .i64 (.ofNat s.size))
  | some (.array n _), _ => some (.int .i64 (.ofNat n))
  | some (.pointer t'), _ => match P.underlying t' with
    | some (.array n _) => some (.int .i64 (.ofNat n))
    | _ => none
  | some (.slice _), .sl _ _ n _ _ _ => some (.int .i64 (.ofNat n))
  | some (.slice _), .nils => some (.int .i64 (.ofNat 0))
  | some (.map _ _), .nilm => some (.int .i64 (.ofNat 0))
  | some (.map _ _), .map b => match h.at b with
    | some (.map es _) => some (.int .i64 (.ofNat es.length))
    | _ => none
  | _, _ => none

theorem ERel.length : ∀ {es : List (AV × AV × Nat)} {cs : List MapEntry}, ERel μ es cs → es.length = cs.length
  | _, _, .nil => rfl
  | _, _, .cons _ _ t => by simp [t.length]

theorem lenOfA_run {t ty : TypeId} {x a : AV} {vx : Value} (hr : RelH μ h w) (hx : VRel μ x vx) (hl : lenOfA P t x h = some a) : ∃ v, (Builtin.len_ #[t] ty #[vx]).run P w = .ok v w ∧ VRel μ a v := by
  unfold lenOfA at hl
  split at hl <;> try cases hl
  · rename_i s hu
    cases hx
    exact ⟨_, by simp [Builtin.len_, run_underlying hu]; rfl, .int _ _⟩
  · rename_i n e hu
    refine ⟨goInt n, ?_, .int _ _⟩
    cases hx <;> simp [Builtin.len_, run_underlying hu]
  · rename_i t' hu
    split at hl <;> cases hl
    rename_i n e hu'
    refine ⟨goInt n, ?_, .int _ _⟩
    cases hx <;> simp [Builtin.len_, run_underlying hu, run_underlying hu']
  · rename_i hu
    cases hx
    exact ⟨_, by simp [Builtin.len_, run_underlying hu]; rfl, .int _ _⟩
  · rename_i hu
    cases hx
    exact ⟨_, by simp [Builtin.len_, run_underlying hu]; rfl, .int _ _⟩
  · rename_i hu
    cases hx
    exact ⟨_, by simp [Builtin.len_, run_underlying hu]; rfl, .int _ _⟩
  · rename_i b hu
    split at hl <;> cases hl
    rename_i es k hb
    obtain ⟨L, ces, hL, hh, he⟩ := hr.rel _ _ hb
    cases hx with
    | map hM =>
      rw [hL] at hM; cases hM
      have hlen := he.length
      simp at hlen
      refine ⟨goInt ces.size, ?_, by rw [hlen]; exact .int _ _⟩
      simp [Builtin.len_, run_underlying hu, getObj, Sem.run, hh]

def capA (P : Program) (t : TypeId) (x : AV) : Option AV :=
  match P.underlying t, x with
  | some (.array n _), _ => some (.int .i64 (.ofNat n))
  | some (.slice _), .sl _ _ _ c _ true => some (.int .i64 (.ofNat c))
  | some (.slice _), .nils => some (.int .i64 (.ofNat 0))
  | _, _ => none

theorem capA_run {t ty : TypeId} {x a : AV} {vx : Value} (hx : VRel μ x vx) (hl : capA P t x = some a) (w : World) : ∃ v, (Builtin.cap_ #[t] ty #[vx]).run P w = .ok v w ∧ VRel μ a v := by
  unfold capA at hl
  split at hl <;> try cases hl
  · rename_i n e hu
    refine ⟨goInt n, ?_, .int _ _⟩
    cases hx <;> simp [Builtin.cap_, run_underlying hu]
  · rename_i hu
    cases hx with
    | sl hb hA hl hc he hz =>
      have := he rfl
      subst this
      exact ⟨_, by simp [Builtin.cap_, run_underlying hu]; rfl, .int _ _⟩
  · rename_i hu
    cases hx
    exact ⟨_, by simp [Builtin.cap_, run_underlying hu]; rfl, .int _ _⟩

def minmaxA (mx : Bool) : List AV → Option AV
  | [.int k a, .int _ b] => match mx with
    | true => some (.int k (match ltF a b with | true => b | false => a))
    | false => some (.int k (match ltF b a with | true => b | false => a))
  | [.int k a, .int _ b, .int _ c] => match mx with
    | true => some (.int k (match ltF (match ltF a b with | true => b | false => a) c with | true => c | false => (match ltF a b with | true => b | false => a)))
    | false => some (.int k (match ltF c (match ltF b a with | true => b | false => a) with | true => c | false => (match ltF b a with | true => b | false => a)))
  | _ => none

theorem sel_lt (a b x y : Int) : (match ltF a b with | true => x | false => y) = if a < b then x else y := by
  rw [ltF_eq]; by_cases h : a < b <;> simp [h]

theorem max_run {ts : Array TypeId} {ty : TypeId} {as : List AV} {vs : List Value} {a : AV} (hv : VRels μ as vs) (hm : minmaxA true as = some a) (w : World) :
    ∃ v, (Builtin.max_ ts ty vs.toArray).run P w = .ok v w ∧ VRel μ a v := by
  unfold minmaxA at hm
  split at hm <;> try cases hm
  · cases hv with
    | cons h1 t => cases t with
      | cons h2 t => cases t; cases h1; cases h2; exact ⟨_, by simp [Builtin.max_, Builtin.max2, sel_lt], .int _ _⟩
  · cases hv with
    | cons h1 t => cases t with
      | cons h2 t => cases t with
        | cons h3 t => cases t; cases h1; cases h2; cases h3; exact ⟨_, by simp [Builtin.max_, Builtin.max2, sel_lt], .int _ _⟩

theorem min_run {ts : Array TypeId} {ty : TypeId} {as : List AV} {vs : List Value} {a : AV} (hv : VRels μ as vs) (hm : minmaxA false as = some a) (w : World) :
    ∃ v, (Builtin.min_ ts ty vs.toArray).run P w = .ok v w ∧ VRel μ a v := by
  unfold minmaxA at hm
  split at hm <;> try cases hm
  · cases hv with
    | cons h1 t => cases t with
      | cons h2 t => cases t; cases h1; cases h2; exact ⟨_, by simp [Builtin.min_, Builtin.min2, sel_lt], .int _ _⟩
  · cases hv with
    | cons h1 t => cases t with
      | cons h2 t => cases t with
        | cons h3 t => cases t; cases h1; cases h2; cases h3; exact ⟨_, by simp [Builtin.min_, Builtin.min2, sel_lt], .int _ _⟩

end
end
end Go.Proofs.Ytllldiokcnheiaa.Ab

namespace Go.Proofs.Ytllldiokcnheiaa.Ab
noncomputable section
section
variable {P : Program} {w : World} {μ : Places} {h h' : AH}

/-! ### copy and clear -/

def copyA (P : Program) (t : TypeId) (d s : AV) (h : AH) : Option (AV × AH) :=
  match elemA P t with
  | none => none
  | some e =>
    match szA P e, lenA s, lenA d with
    | some sz, some ls, some ld =>
      match d with
      | .sl b off _ _ sz' _ =>
        match Nat.beq sz sz', Nat.beq sz 0, Nat.beq (minF ls ld) 0 with
        | true, false, true => some (.int .i64 (.ofNat 0), h)
        | true, false, false =>
          match firstA sz (minF ls ld) s h with
          | some l => match h.storeL b off l with
            | some h' => some (.int .i64 (.ofNat (minF ls ld)), h')
            | none => none
          | none => none
        | _, _, _ => none
      | .nils => match s with
        | .sl .. => some (.int .i64 (.ofNat 0), h)
        | .nils => some (.int .i64 (.ofNat 0), h)
        | _ => none
      | _ => none
    | _, _, _ => none

theorem run_firstCells_zero (sz : Nat) {s : AV} {vs : Value} (hs : VRel μ s vs) (n : Nat) (hl : lenA s = some n) (hne : ∀ b, s ≠ .str b) (w : World) : (Builtin.firstCells sz 0 vs).run P w = .ok #[] w := by
  unfold lenA at hl
  split at hl <;> try cases hl
  · cases hs; simp [Builtin.firstCells, loadCells, loadCellsFrom]
  · cases hs; simp [Builtin.firstCells]
  · exact absurd rfl (hne _)

theorem copyA_run {t t' ty : TypeId} {d s a : AV} {vd vs : Value} (hr : RelH μ h w) (hd : VRel μ d vd) (hs : VRel μ s vs) (hc : copyA P t d s h = some (a, h')) :
    ∃ v w', (Builtin.copy_ #[t, t'] ty #[vd, vs]).run P w = .ok v w' ∧ VRel μ a v ∧ RelH μ h' w' ∧ Adv μ h w μ h' w' := by
  unfold copyA at hc
  split at hc <;> try cases hc
  rename_i e he
  split at hc <;> try cases hc
  rename_i sz ls ld hsz hls hld
  have hlsr := lenA_run (P := P) hs hls
  split at hc <;> try cases hc
  · rename_i b off ln cap sz' ex
    split at hc <;> try cases hc
    · rename_i h1 h2 h3
      have h3' := Nat.eq_of_beq_eq_true h3
      rw [minF_eq] at h3'
      cases hd with
      | sl hb hA hl hcc hee hz =>
        rename_i c L A
        simp [lenA] at hld
        subst hld
        have hne : ∀ bb, s ≠ .str bb ∨ True := fun _ => .inr trivial
        by_cases hstr : ∃ bb, s = .str bb
        · obtain ⟨bb, rfl⟩ := hstr
          cases hs
          refine ⟨goInt 0, w, ?_, .int _ _, hr, Adv.refl _ _ _⟩
          simp [lenA] at hls
          subst hls
          have hmn : Nat.min bb.size ln = 0 := h3'
          simp [Builtin.copy_, run_underlying (elemA_eq he), run_szA hsz, hlsr, hmn, Builtin.firstCells, storeCells]
        · have hf0 := run_firstCells_zero (P := P) sz hs ls hls (fun bb e => hstr ⟨bb, e⟩) w
          refine ⟨goInt 0, w, ?_, .int _ _, hr, Adv.refl _ _ _⟩
          have hmn : Nat.min ls ln = 0 := h3'
          simp [Builtin.copy_, run_underlying (elemA_eq he), run_szA hsz, hlsr, hmn, hf0, storeCells]
    · rename_i h1 h2 h3
      have h1' := Nat.eq_of_beq_eq_true h1
      subst h1'
      have h2' := Nat.ne_of_beq_eq_false h2
      have h3' := Nat.ne_of_beq_eq_false h3
      split at hc <;> try cases hc
      rename_i l hl
      split at hc <;> cases hc
      rename_i hst
      obtain ⟨xs, hxs, hxl, hfc⟩ := firstA_run (P := P) hr hs hl
      cases hd with
      | sl hb hA hln hcc hee hz =>
        rename_i c L A
        simp [lenA] at hld
        subst hld
        rw [minF_eq] at h3'
        have hA' := hA (by omega)
        subst hA'
        obtain ⟨M, w', hM, hrun, hr', had⟩ := hr.storeL P hst hxs
        rw [hb] at hM; cases hM
        refine ⟨goInt (minF ls ln), w', ?_, .int _ _, hr', had⟩
        have hmn : Nat.min ls ln = minF ls ln := (minF_eq _ _).symm
        simp [Builtin.copy_, run_underlying (elemA_eq he), run_szA hsz, hlsr, hmn, hfc w rfl, hrun]
  · split at hc <;> cases hc
    · cases hd
      simp [lenA] at hld
      subst hld
      have hf0 := run_firstCells_zero (P := P) sz hs ls hls (fun bb e => by cases e) w
      refine ⟨goInt 0, w, ?_, .int _ _, hr, Adv.refl _ _ _⟩
      have hmn : Nat.min ls 0 = 0 := Nat.min_zero ls
      simp [Builtin.copy_, run_underlying (elemA_eq he), run_szA hsz, hlsr, hmn, hf0]
    · cases hd
      simp [lenA] at hld
      subst hld
      have hf0 := run_firstCells_zero (P := P) sz hs ls hls (fun bb e => by cases e) w
      refine ⟨goInt 0, w, ?_, .int _ _, hr, Adv.refl _ _ _⟩
      have hmn : Nat.min ls 0 = 0 := Nat.min_zero ls
      simp [Builtin.copy_, run_underlying (elemA_eq he), run_szA hsz, hlsr, hmn, hf0]

def clearA (P : Program) (t : TypeId) (x : AV) (h : AH) : Option (AV × AH) :=
  match elemA P t with
  | none => none
  | some e =>
    match x with
    | .nils => some (.tup [], h)
    | .sl b off len _ sz' _ =>
      match Nat.beq len 0 with
      | true => some (.tup [], h)
      | false =>
        match szA P e, zeroA P e with
        | some sz, some z =>
          match Nat.beq sz sz', Nat.beq sz 0, Nat.beq (cellsA z).length sz with
          | true, false, true =>
            match h.storeL b off (zerosA (cellsA z) (len * sz)) with
            | some h' => some (.tup [], h')
            | none => none
          | _, _, _ => none
        | _, _ => none
    | _ => none

theorem clearA_run {t ty : TypeId} {x a : AV} {vx : Value} (hr : RelH μ h w) (hx : VRel μ x vx) (hc : clearA P t x h = some (a, h')) :
    ∃ v w', (Builtin.clear_ #[t] ty #[vx]).run P w = .ok v w' ∧ VRel μ a v ∧ RelH μ h' w' ∧ Adv μ h w μ h' w' := by
  unfold clearA at hc
  split at hc <;> try cases hc
  rename_i e he
  split at hc <;> try cases hc
  · cases hx
    exact ⟨.tuple #[], w, by simp [Builtin.clear_, run_underlying (elemA_eq he)], by simpa using VRel.tup .nil, hr, Adv.refl _ _ _⟩
  · rename_i b off len cap sz' ex
    cases hx with
    | sl hb hA hln hcc hee hz =>
      rename_i c L A
      split at hc <;> try cases hc
      · rename_i h0
        have h0' := Nat.eq_of_beq_eq_true h0
        subst h0'
        exact ⟨.tuple #[], w, by simp [Builtin.clear_, run_underlying (elemA_eq he)], by simpa using VRel.tup .nil, hr, Adv.refl _ _ _⟩
      · rename_i h0
        have h0' := Nat.ne_of_beq_eq_false h0
        split at hc <;> try cases hc
        rename_i sz z hsz hzz
        split at hc <;> try cases hc
        rename_i h1 h2 h3
        have h1' := Nat.eq_of_beq_eq_true h1
        subst h1'
        have h2' := Nat.ne_of_beq_eq_false h2
        have h3' := Nat.eq_of_beq_eq_true h3
        split at hc <;> cases hc
        rename_i hst
        have hA' := hA (by omega)
        subst hA'
        obtain ⟨zv, hzv, hzrel⟩ := run_zeroA hzz w μ
        have hzc := hzrel.cells
        have hzcl := hzc.length
        simp at hzcl
        have e1 : len * zv.cells.size = len * sz := by rw [← hzcl, h3']
        have hnews : VRels μ (zerosA (cellsA z) (len * sz)) (Builtin.zeroCells zv.cells len).toList := by
          unfold Builtin.zeroCells
          rw [e1]
          exact zerosA_rel hzc _ (by omega)
        obtain ⟨M, w', hM, hrun, hr', had⟩ := hr.storeL P hst hnews
        rw [hb] at hM; cases hM
        obtain ⟨len', rfl⟩ : ∃ k, len = k + 1 := ⟨len - 1, by omega⟩
        exact ⟨.tuple #[], w', by simp [Builtin.clear_, run_underlying (elemA_eq he), hzv, hrun], by simpa using VRel.tup .nil, hr', had⟩

/-! ### Conversions and the like -/

def convA (P : Program) (s d : TypeId) (x : AV) : Option AV :=
  match P.underlying s, P.underlying d, x with
  | some _, some (.int k), .int _ n => some (.int k (wrapF k n))
  | some _, some .string, .str b => some (.str b)
  | _, _, _ => none

theorem convA_run {s d : TypeId} {x a : AV} {vx : Value} (hx : VRel μ x vx) (hc : convA P s d x = some a) (w : World) : ∃ v, (convert s d vx).run P w = .ok v w ∧ VRel μ a v := by
  unfold convA at hc
  split at hc <;> cases hc
  · rename_i ds k k' n hs hd
    cases hx
    refine ⟨.int k (k.wrap n), ?_, by rw [wrapF_eq]; exact .int _ _⟩
    cases ds <;> simp [convert, run_underlying hs, run_underlying hd, Conv.intToInt]
  · rename_i ds b hs hd
    cases hx
    refine ⟨.string b, ?_, .str _⟩
    cases ds <;> simp [convert, run_underlying hs, run_underlying hd]

def ifaceA (P : Program) (t : TypeId) (x : AV) : Option AV :=
  match P.underlying t with
  | some (.interface _) => none
  | some _ => some (.iface t x)
  | none => none

theorem ifaceA_run {t : TypeId} {x a : AV} {vx : Value} (hx : VRel μ x vx) (hc : ifaceA P t x = some a) (w : World) : ∃ v, (Instr.makeInterface t vx).run P w = .ok v w ∧ VRel μ a v := by
  unfold ifaceA at hc
  split at hc <;> cases hc
  rename_i d hne hd
  refine ⟨.iface t vx, ?_, .iface hx⟩
  cases d <;> first | (exact absurd rfl (hne _)) | (simp [Instr.makeInterface, run_underlying hd])

def extractA (x : AV) (i : Nat) : Option AV :=
  match x with
  | .tup l => l[i]?
  | _ => none

theorem extractA_run {x a : AV} {i : Nat} {vx : Value} (hx : VRel μ x vx) (hc : extractA x i = some a) (w : World) : ∃ v, (Instr.extract vx i).run P w = .ok v w ∧ VRel μ a v := by
  unfold extractA at hc
  split at hc <;> try cases hc
  cases hx with
  | tup hs =>
    obtain ⟨v, hv, hr⟩ := hs.get i a hc
    exact ⟨v, by simp [Instr.extract, hv], hr⟩

/-- A value that is not nil. -/
def solidA : AV → Bool
  | .ptr _ _ => true
  | .fn (.func _) _ _ => true
  | .iface _ _ => true
  | _ => false

/-- A type assertion to a type that is no interface type. -/
def assertA (P : Program) (x : AV) (t : TypeId) (ok : Bool) : Option AV :=
  match P.underlying t with
  | some (.interface _) => none
  | some _ =>
    match x with
    | .iface t' v =>
      match Nat.beq t' t, ok with
      | true, true => some (.tup [v, .bool true])
      | true, false => some v
      | false, true => match zeroA P t with
        | some z => some (.tup [z, .bool false])
        | none => none
      | false, false => none
    | _ => none
  | none => none

theorem assertA_run {x a : AV} {vx : Value} {xt t : TypeId} {ok : Bool} (hx : VRel μ x vx) (hc : assertA P x t ok = some a) (w : World) : ∃ v, (Instr.typeAssert vx xt t ok).run P w = .ok v w ∧ VRel μ a v := by
  unfold assertA at hc
  split at hc <;> try cases hc
  rename_i d hne hd
  split at hc <;> try cases hc
  rename_i t' v
  cases hx with
  | iface hv =>
    rename_i vv
    split at hc <;> try cases hc
    · rename_i h1
      have h1' := Nat.eq_of_beq_eq_true h1
      subst h1'
      refine ⟨.tuple #[vv, .bool true], ?_, by simpa using VRel.tup (.cons hv (.cons (.bool true) .nil))⟩
      cases d <;> first | (exact absurd rfl (hne _)) | (simp [Instr.typeAssert, run_underlying hd])
    · rename_i h1
      have h1' := Nat.eq_of_beq_eq_true h1
      subst h1'
      refine ⟨vv, ?_, hv⟩
      cases d <;> first | (exact absurd rfl (hne _)) | (simp [Instr.typeAssert, run_underlying hd])
    · rename_i h1
      have h1' := Nat.ne_of_beq_eq_false h1
      split at hc <;> cases hc
      rename_i z hz
      obtain ⟨zv, hzv, hzrel⟩ := run_zeroA hz w μ
      refine ⟨.tuple #[zv, .bool false], ?_, by simpa using VRel.tup (.cons hzrel (.cons (.bool false) .nil))⟩
      cases d <;> first | (exact absurd rfl (hne _)) | (simp [Instr.typeAssert, run_underlying hd, h1', hzv])

end
end
end Go.Proofs.Ytllldiokcnheiaa.Ab
