/- Regions that draw their order: whatever order is drawn, the end is that of the run in one order, where the checks of the region's text hold. -/
import Derived.Test.YtllldiokcnheiaaAb4

namespace Go.Proofs.Ytllldiokcnheiaa.Ab
noncomputable section
section

theorem bit_eq (m i : Nat) : bit m i = m.testBit i := by
  unfold bit
  rw [Nat.testBit_eq_decide_div_mod_eq, show Nat.shiftRight m i = m / 2 ^ i from Nat.shiftRight_eq_div_pow m i]
  show Nat.beq (m / 2 ^ i % 2) 1 = _
  by_cases h : m / 2 ^ i % 2 = 1
  · rw [h]; simp
  · have : Nat.beq (m / 2 ^ i % 2) 1 = false := by rw [← Bool.not_eq_true, Nat.beq_eq]; exact h
    rw [this]; simp [h]

theorem bit_or (m k i : Nat) : bit (Nat.lor m k) i = (bit m i || bit k i) := by
  simp only [bit_eq]; exact Nat.testBit_or m k i
theorem bit_and (m k i : Nat) : bit (Nat.land m k) i = (bit m i && bit k i) := by
  simp only [bit_eq]; exact Nat.testBit_and m k i
theorem bit_one (i j : Nat) : bit (Nat.shiftLeft 1 i) j = decide (i = j) := by
  rw [bit_eq, show Nat.shiftLeft 1 i = 2 ^ i from by rw [show Nat.shiftLeft 1 i = 1 <<< i from rfl, Nat.one_shiftLeft], Nat.testBit_two_pow]
theorem bit_zero (i : Nat) : bit 0 i = false := by rw [bit_eq]; simp

variable {P : Program} {ops : Array Oper}

/-- A set of operations with all that its members must follow. -/
def Closed (ops : Array Oper) (S : Nat → Prop) : Prop := ∀ i o, ops[i]? = some o → S i → ∀ e ∈ o.after, Region.binds .any e = true → S e.on

def MaskOk (ops : Array Oper) (i m : Nat) : Prop := ∀ S : Nat → Prop, Closed ops S → S i → ∀ j, bit m j = true → S j

theorem foldl_mask {S : Nat → Prop} (acc : List Nat) : ∀ (l : List Edge) (s : Nat), (∀ j, bit s j = true → S j) → (∀ e ∈ l, Region.binds .any e = true → S e.on ∧ ∀ j, bit (acc.getD e.on 0) j = true → S j) →
    ∀ j, bit (l.foldl (maskE acc) s) j = true → S j
  | [], s, hs, _, j, hj => hs j hj
  | e :: r, s, hs, he, j, hj => by
    rw [List.foldl_cons] at hj
    refine foldl_mask acc r _ ?_ (fun e' h' => he e' (by simp [h'])) j hj
    intro k hk
    unfold maskE at hk
    split at hk
    · rename_i hb
      rw [bit_or, bit_or, bit_one] at hk
      obtain ⟨h1, h2⟩ := he e (by simp) hb
      simp only [Bool.or_eq_true, decide_eq_true_eq] at hk
      rcases hk with hk | hk | hk
      · exact hs k hk
      · subst hk; exact h1
      · exact h2 k hk
    · exact hs k hk

theorem masks_spec : ∀ (l : List Oper) (acc : List Nat), (∀ i o, l[i]? = some o → ops[acc.length + i]? = some o) → (∀ i, MaskOk ops i (acc.getD i 0)) →
    ∀ i, MaskOk ops i ((masks l acc).getD i 0)
  | [], acc, _, h => h
  | o :: r, acc, hl, h => by
    unfold masks
    refine masks_spec r _ (fun i o' hi => ?_) fun i => ?_
    · have := hl (i + 1) o' (by simpa using hi)
      rw [List.length_append]
      simpa [Nat.add_assoc, Nat.add_comm 1 i] using this
    · by_cases h1 : i < acc.length
      · have : (acc ++ [o.after.toList.foldl (maskE acc) 0]).getD i 0 = acc.getD i 0 := by
          rw [List.getD_eq_getElem?_getD, List.getElem?_append_left h1, List.getD_eq_getElem?_getD]
        rw [this]; exact h i
      · by_cases h2 : i = acc.length
        · subst h2
          have : ∀ x : Nat, (acc ++ [x]).getD acc.length 0 = x := by intro x; simp
          rw [this]
          intro S hc hS
          have ho := hl 0 o (by simp)
          refine foldl_mask acc _ 0 (fun j hj => by rw [bit_zero] at hj; cases hj) fun e he hb => ?_
          have hon : S e.on := hc _ o (by simpa using ho) hS e (by simpa using he) hb
          exact ⟨hon, h e.on S hc hon⟩
        · have : ∀ x : Nat, (acc ++ [x]).getD i 0 = 0 := by
            intro x
            rw [List.getD_eq_getElem?_getD, List.getElem?_eq_none (by simp; omega)]; rfl
          rw [this]
          intro S _ _ j hj
          rw [bit_zero] at hj; cases hj

theorem masks_ok (i : Nat) : MaskOk ops i ((masks ops.toList []).getD i 0) :=
  masks_spec ops.toList [] (fun i o h => by simpa using h) (fun i S _ _ j hj => by
    simp [bit_zero] at hj) i

theorem pairsOk_spec {B : List Nat} (h : pairsOk ops.toList B = true) {i j : Nat} {x y : Oper} (hi : ops[i]? = some x) (hj : ops[j]? = some y) (hne : i ≠ j) :
    bit (B.getD i 0) j = true ∨ bit (B.getD j 0) i = true ∨ x.apart ops y = true := by
  unfold pairsOk at h
  rw [List.all_eq_true] at h
  have hi' := (Array.getElem?_eq_some_iff.1 hi).1
  have hj' := (Array.getElem?_eq_some_iff.1 hj).1
  have h1 := h i (by simpa using hi')
  rw [List.all_eq_true] at h1
  have h2 := h1 j (by simpa using hj')
  have hb : Nat.beq i j = false := by rw [← Bool.not_eq_true, Nat.beq_eq]; exact hne
  rw [hb] at h2
  have e1 : ops.toList[i]? = some x := by simpa using hi
  have e2 : ops.toList[j]? = some y := by simpa using hj
  rw [e1, e2] at h2
  cases h3 : bit (B.getD i 0) j <;> cases h4 : bit (B.getD j 0) i
  · rw [h3, h4] at h2
    exact .inr (.inr (by simpa [apartB] using h2))
  · exact .inr (.inl rfl)
  · exact .inl rfl
  · exact .inl rfl

def isEff (o : Oper) : Prop := kindOf o.op = .eff

structure OrderOk (ops : Array Oper) (B L : List Nat) : Prop where
  known : ∀ (p i : Nat), L[p]? = some i → ∃ o, ops[i]? = some o
  inj : ∀ (p q i : Nat), L[p]? = some i → L[q]? = some i → p = q
  before : ∀ (p i j : Nat), L[p]? = some i → bit (B.getD i 0) j = true → ∃ q : Nat, q < p ∧ L[q]? = some j
  eff : ∀ (p q i j : Nat) (o : Oper), L[p]? = some i → ops[i]? = some o → isEff o → q < p → L[q]? = some j → bit (B.getD i 0) j = true
  edges : ∀ (p i : Nat) (o : Oper), L[p]? = some i → ops[i]? = some o → ∀ e ∈ o.after, Region.binds .any e = true → ∃ q : Nat, q < p ∧ L[q]? = some e.on

theorem edgesIn_spec {d : Nat} {l : List Edge} (h : edgesIn d l = true) : ∀ e ∈ l, Region.binds .any e = true → bit d e.on = true := by
  intro e he hb
  unfold edgesIn at h
  have := List.all_eq_true.1 h e he
  rw [hb] at this
  exact this

theorem orderOk_step {B : List Nat} {i : Nat} {r : List Nat} {d : Nat} (h : orderOk ops.toList B (i :: r) d = true) :
    ∃ o, ops[i]? = some o ∧ bit d i = false ∧ (∀ j, bit (B.getD i 0) j = true → bit d j = true) ∧ (isEff o → ∀ j, bit d j = true → bit (B.getD i 0) j = true) ∧
      (∀ e ∈ o.after, Region.binds .any e = true → bit d e.on = true) ∧ orderOk ops.toList B r (Nat.lor d (Nat.shiftLeft 1 i)) = true := by
  unfold orderOk at h
  split at h <;> try (cases h; done)
  rename_i o ho hb
  refine ⟨o, by simpa using ho, hb, ?_⟩
  split at h <;> try (cases h; done)
  rename_i hed
  have hed : ∀ e ∈ o.after, Region.binds .any e = true → bit d e.on = true := fun e he => edgesIn_spec hed e (by simpa using he)
  split at h
  · split at h <;> try (cases h; done)
    rename_i he
    have he := Nat.eq_of_beq_eq_true he
    exact ⟨fun j hj => by rw [he]; exact hj, fun _ j hj => by rw [← he]; exact hj, hed, h⟩
  · rename_i hk
    split at h <;> try (cases h; done)
    rename_i he
    have he := Nat.eq_of_beq_eq_true he
    refine ⟨fun j hj => ?_, fun hf => absurd hf (by unfold isEff; exact hk), hed, h⟩
    rw [← he, bit_and] at hj
    simp at hj; exact hj.2

theorem get_snoc {D : List Nat} {i p x : Nat} (h : (D ++ [i])[p]? = some x) : D[p]? = some x ∧ p < D.length ∨ p = D.length ∧ x = i := by
  by_cases h1 : p < D.length
  · rw [List.getElem?_append_left h1] at h; exact .inl ⟨h, h1⟩
  · by_cases h2 : p = D.length
    · subst h2; simp at h; exact .inr ⟨rfl, h.symm⟩
    · rw [List.getElem?_eq_none (by simp; omega)] at h; cases h

theorem orderOk_gen {B : List Nat} : ∀ (L : List Nat) (d : Nat) (D : List Nat), (∀ j, bit d j = true ↔ j ∈ D) → OrderOk ops B D → orderOk ops.toList B L d = true →
    OrderOk ops B (D ++ L) ∧ ∀ i, i < ops.size → i ∈ D ++ L
  | [], d, D, hd, hD, h => by
    unfold orderOk at h
    rw [List.all_eq_true] at h
    rw [List.append_nil]
    exact ⟨hD, fun i hi => (hd i).1 (h i (by simpa using hi))⟩
  | i :: r, d, D, hd, hD, h => by
    obtain ⟨o, ho, hb, h1, h2, hed, h3⟩ := orderOk_step h
    have hmem : i ∉ D := fun hm => by rw [(hd i).2 hm] at hb; cases hb
    have := orderOk_gen r _ (D ++ [i]) (fun j => by
      rw [bit_or, bit_one]; simp only [Bool.or_eq_true, decide_eq_true_eq, List.mem_append, List.mem_singleton, hd j]
      constructor
      · rintro (h | h); exact .inl h; exact .inr h.symm
      · rintro (h | h); exact .inl h; exact .inr h.symm) (by
      have inD : ∀ {p x : Nat}, D[p]? = some x → x ∈ D := fun h => List.mem_of_getElem? h
      have left : ∀ {p x : Nat}, D[p]? = some x → (D ++ [i])[p]? = some x := fun {p x} h => by
        rw [List.getElem?_append_left (List.getElem?_eq_some_iff.1 h).1]; exact h
      refine ⟨fun p x hp => ?_, fun p q x hp hq => ?_, fun p x j hp hj => ?_, fun p q x j o' hp hx he hlt hq => ?_, fun p x o' hp hx e he hbi => ?_⟩
      · rcases get_snoc hp with ⟨h, _⟩ | ⟨_, rfl⟩
        · exact hD.known p x h
        · exact ⟨o, ho⟩
      · rcases get_snoc hp with ⟨g1, _⟩ | ⟨e1, rfl⟩ <;> rcases get_snoc hq with ⟨g2, _⟩ | ⟨e2, g2⟩
        · exact hD.inj p q x g1 g2
        · subst g2; exact absurd (inD g1) hmem
        · exact absurd (inD g2) hmem
        · omega
      · rcases get_snoc hp with ⟨g1, g2⟩ | ⟨e1, rfl⟩
        · obtain ⟨q, hq, hq'⟩ := hD.before p x j g1 hj
          exact ⟨q, hq, left hq'⟩
        · obtain ⟨q, hq, hq'⟩ := List.mem_iff_getElem.1 ((hd j).1 (h1 j hj))
          exact ⟨q, by omega, left (List.getElem?_eq_some_iff.2 ⟨hq, hq'⟩)⟩
      · rcases get_snoc hp with ⟨g1, g2⟩ | ⟨e1, rfl⟩
        · rcases get_snoc hq with ⟨k1, _⟩ | ⟨k1, _⟩
          · exact hD.eff p q x j o' g1 hx he hlt k1
          · omega
        · rcases get_snoc hq with ⟨k1, _⟩ | ⟨k1, _⟩
          · rw [ho] at hx; cases hx
            exact h2 he j ((hd j).2 (inD k1))
          · omega
      · rcases get_snoc hp with ⟨g1, g2⟩ | ⟨e1, rfl⟩
        · obtain ⟨q, hq, hq'⟩ := hD.edges p x o' g1 hx e he hbi
          exact ⟨q, hq, left hq'⟩
        · rw [ho] at hx; cases hx
          obtain ⟨q, hq, hq'⟩ := List.mem_iff_getElem.1 ((hd _).1 (hed e he hbi))
          exact ⟨q, by omega, left (List.getElem?_eq_some_iff.2 ⟨hq, hq'⟩)⟩) h3
    rwa [List.append_assoc] at this

theorem orderOk_spec {B L : List Nat} (h : orderOk ops.toList B L 0 = true) : OrderOk ops B L ∧ ∀ i, i < ops.size → ∃ p : Nat, L[p]? = some i := by
  have := orderOk_gen L 0 [] (fun j => by rw [bit_zero]; simp) ⟨fun p i h => by simp at h, fun p q i h => by simp at h, fun p i j h => by simp at h, fun p q i j o h => by simp at h, fun p i o h => by simp at h⟩ h
  rw [List.nil_append] at this
  exact ⟨this.1, fun i hi => List.mem_iff_getElem?.1 (this.2 i hi)⟩
end
end
end Go.Proofs.Ytllldiokcnheiaa.Ab

namespace Go.Proofs.Ytllldiokcnheiaa.Ab
noncomputable section
section
variable {P : Program} {G : Nat} {call : CallF} {F F' : Fr} {h h' H : AH} {ops : Array Oper}

/-! ### Only the slots that are named -/

theorem evalA_congr {x : Operand} (hx : ∀ t, x = .tmp t → F.get t = F'.get t) : evalA G F x = evalA G F' x := by
  cases x <;> try rfl
  exact hx _ rfl

theorem evalsA_congr : ∀ {l : List Operand}, (∀ x ∈ l, evalA G F x = evalA G F' x) → evalsA G F l = evalsA G F' l
  | [], _ => rfl
  | x :: r, h => by
    unfold evalsA
    rw [h x (by simp), evalsA_congr fun y hy => h y (by simp [hy])]

theorem evalP_congr : ∀ {l : List (Nat × Operand)}, (∀ x ∈ l.map (·.2), evalA G F x = evalA G F' x) → evalP G F l = evalP G F' l
  | [], _ => rfl
  | (i, x) :: r, h => by
    unfold evalP
    rw [h x (by simp), evalP_congr fun y hy => h y (by simp [hy])]

theorem evalO_congr {x : Option Operand} (h : ∀ y ∈ x, evalA G F y = evalA G F' y) : evalO G F x = evalO G F' x := by
  cases x with
  | none => rfl
  | some x => unfold evalO; dsimp only; rw [h x rfl]

theorem stepA_congr {o : Op} (h : ∀ x ∈ o.operands, evalA G F x = evalA G F' x) : stepA P G F o H = stepA P G F' o H := by
  cases o <;> simp only [Op.operands, Call.operands, List.mem_toArray, List.mem_cons, forall_eq_or_imp, List.not_mem_nil, false_implies, implies_true, and_true, Array.mem_append, or_imp, forall_and] at h <;> dsimp only [stepA]
  case build t ps => rw [evalP_congr (l := ps.toList) (fun x hx => h x hx)]
  case buildSlice t n ps => rw [evalP_congr (l := ps.toList) (fun x hx => h x hx)]
  case makeFunc fn first cap => rw [evalsA_congr (l := first.toList) (fun x hx => h.1 x (by simpa using hx)), evalsA_congr (l := cap.toList) (fun x hx => h.2 x (by simpa using hx))]
  case slice t x lo hi mx =>
    obtain ⟨⟨⟨h1, h2⟩, h3⟩, h4⟩ := h
    rw [h1 x rfl, evalO_congr (x := lo) (fun y hy => h2 y (by simpa using hy)), evalO_congr (x := hi) (fun y hy => h3 y (by simpa using hy)), evalO_congr (x := mx) (fun y hy => h4 y (by simpa using hy))]
  case call c =>
    obtain ⟨callee, args, argTypes⟩ := c
    dsimp only at h ⊢
    rw [evalsA_congr (l := args.toList) (fun x hx => h.2 x (by simpa using hx))]
    cases callee with
    | builtin b => rfl
    | value f => dsimp only; rw [h.1 f (by simp)]
    | invoke _ _ => rfl
  case makeMap t r => cases r <;> rfl
  all_goals simp_all

theorem wantedA_congr {o : Oper} (h : ∀ t ∈ o.looksAt ops, F.get t = F'.get t) : wantedA ops.toList F o = wantedA ops.toList F' o := by
  unfold wantedA
  cases hg : o.guard with
  | none => rfl
  | some jw =>
    obtain ⟨j, want⟩ := jw
    dsimp only
    cases hj : ops.toList[j]? with
    | none => rfl
    | some o' =>
      dsimp only
      cases ht : o'.dst with
      | none => rfl
      | some t =>
        dsimp only
        have hj' : ops[j]? = some o' := by simpa using hj
        rw [h t (by unfold Oper.looksAt; rw [hg]; simp [hj', ht])]

theorem doOp_congr {o : Oper} (h : ∀ t ∈ o.looksAt ops, F.get t = F'.get t) : doOp P G call ops.toList o F H = doOp P G call ops.toList o F' H := by
  unfold doOp
  simp only [stepT_eq]
  rw [wantedA_congr h, stepA_congr (F := F) (F' := F') fun x hx => evalA_congr fun t e => h t (by
    subst e
    exact List.mem_append_left _ (List.mem_filterMap.2 ⟨.tmp t, by simpa using hx, rfl⟩))]

def onlyL (F : Fr) : List Nat → List (Nat × AV)
  | [] => []
  | t :: r => match F.get t with
    | some a => (t, a) :: onlyL F r
    | none => onlyL F r

/-- Only some slots. -/
def Fr.only (F : Fr) (ts : List Nat) : Fr := ⟨onlyL F ts, .e⟩

theorem look_onlyL (F : Fr) (t : Nat) : ∀ (ts : List Nat), lookL (onlyL F ts) t = if t ∈ ts then F.get t else none
  | [] => by simp [onlyL, lookL]
  | u :: r => by
    have ih := look_onlyL F t r
    unfold onlyL
    split
    · rename_i a hu
      rw [lookL_cons, ih]
      by_cases h1 : t = u
      · subst h1; simp [hu]
      · simp [h1]
    · rename_i hu
      rw [ih]
      by_cases h1 : t = u
      · subst h1; simp [hu]
      · simp [h1]

theorem Fr.get_only (F : Fr) (ts : List Nat) (t : Nat) : (F.only ts).get t = if t ∈ ts then F.get t else none := by
  have h := look_onlyL F t ts
  have e : (F.only ts).get t = match lookL (onlyL F ts) t with | some a => some a | none => PM.get .e t := rfl
  rw [e, h]
  split
  · rename_i a ha; exact ha.symm
  · rename_i ha; rw [ha, PM.get_e]

theorem doOp_only {o : Oper} : doOp P G call ops.toList o (F.only (o.looksAt ops)) H = doOp P G call ops.toList o F H :=
  doOp_congr fun t ht => by rw [Fr.get_only, if_pos ht]

/-! ### Kinds -/

/-- A memory with one new block. -/
inductive IsNew : (AH → AH) → Prop where
  | cells (cs : List AV) : IsNew fun h => h.new cs
  | obj (B : Blk) (hB : B.fam? = none) : IsNew fun h => h.newObj B

theorem bind1_pure {x : Option AV} {f g : AV → Option ARes} {r s : ARes} (h : bind1 x f = some r) (hfg : ∀ a, x = some a → f a = some r → g a = some s) : bind1 x g = some s := by
  obtain ⟨a, h1, h2⟩ := bind1_some h
  rw [h1]; exact hfg a h1 h2

def PureK (P : Program) (G : Nat) (F : Fr) (o : Op) : Prop := ∀ h r, stepA P G F o h = some r → ∃ a, r = .val a h ∧ ∀ H, stepA P G F o H = some (.val a H)

theorem valO_pure {x : Option AV} {r : ARes} (hv : valO h x = some r) : ∃ a, r = .val a h ∧ ∀ H, valO H x = some (.val a H) := by
  obtain ⟨a, ha, rfl⟩ := valO_some hv
  exact ⟨a, rfl, fun H => by rw [ha]; rfl⟩

theorem bind_pure {x : Option AV} {f : AH → AV → Option ARes} {r : ARes} (hb : bind1 x (f h) = some r) (hf : ∀ a r, f h a = some r → ∃ b, r = .val b h ∧ ∀ H, f H a = some (.val b H)) :
    ∃ b, r = .val b h ∧ ∀ H, bind1 x (f H) = some (.val b H) := by
  obtain ⟨a, h1, h2⟩ := bind1_some hb
  obtain ⟨b, h3, h4⟩ := hf a r h2
  exact ⟨b, h3, fun H => by rw [h1]; exact h4 H⟩

theorem stepA_pure {o : Op} {r : ARes} (hk : kindOf o = .pure) (hs : stepA P G F o h = some r) : ∃ a, r = .val a h ∧ ∀ H, stepA P G F o H = some (.val a H) := by
  cases o <;> try (cases hk; done)
  case move x => exact valO_pure hs
  case assign x => exact valO_pure hs
  case pick c a b =>
    refine bind_pure (f := fun h c => match c with
      | .bool true => bind1 (evalA G F b) fun _ => valO h (evalA G F a)
      | .bool false => bind1 (evalA G F a) fun _ => valO h (evalA G F b)
      | _ => none) hs fun c r hr => ?_
    split at hr
    · exact bind_pure (f := fun h _ => valO h (evalA G F a)) hr fun _ _ hr => valO_pure hr
    · exact bind_pure (f := fun h _ => valO h (evalA G F b)) hr fun _ _ hr => valO_pure hr
    · cases hr
  case build t ps =>
    dsimp only [stepA] at hs ⊢
    split at hs <;> try (cases hs; done)
    exact valO_pure hs
  case nilCheck x =>
    refine bind_pure (f := fun h x => match solidA x with | true => some (.val x h) | false => none) hs fun a r hr => ?_
    cases hb : solidA a <;> rw [hb] at hr
    · cases hr
    · cases hr; exact ⟨a, rfl, fun H => by simp only [hb]⟩
  case binOp op t x y yt => exact bind_pure (f := fun h x => bind1 (evalA G F y) fun y => valO h (binA P op t x y)) hs fun x r hr => bind_pure (f := fun h y => valO h (binA P op t x y)) hr fun _ _ hr => valO_pure hr
  case unOp op t x => exact bind_pure (f := fun h x => valO h (unA op x)) hs fun _ _ hr => valO_pure hr
  case convert s d x => exact bind_pure (f := fun h x => valO h (convA P s d x)) hs fun _ _ hr => valO_pure hr
  case makeInterface t x => exact bind_pure (f := fun h x => valO h (ifaceA P t x)) hs fun _ _ hr => valO_pure hr
  case makeFunc fn first cap =>
    dsimp only [stepA] at hs ⊢
    split at hs <;> try (cases hs; done)
    cases hs; exact ⟨_, rfl, fun _ => rfl⟩
  case slice t x lo hi mx =>
    refine bind_pure (f := fun h x => match evalO G F lo, evalO G F hi, evalO G F mx with
      | some lo, some hi, some mx => valO h (sliceA P t x lo hi mx)
      | _, _, _ => none) hs fun a r hr => ?_
    split at hr <;> try (cases hr; done)
    exact valO_pure hr
  case fieldAddr s x f => exact bind_pure (f := fun h x => valO h (fieldAddrA P s x f)) hs fun _ _ hr => valO_pure hr
  case field t x f => exact bind_pure (f := fun h x => valO h (fieldA P t x f)) hs fun _ _ hr => valO_pure hr
  case indexAddr t x i => exact bind_pure (f := fun h x => bind1 (evalA G F i) fun i => valO h (indexAddrA P t x i)) hs fun x r hr => bind_pure (f := fun h i => valO h (indexAddrA P t x i)) hr fun _ _ hr => valO_pure hr
  case index t x i => exact bind_pure (f := fun h x => bind1 (evalA G F i) fun i => valO h (indexA P t x i)) hs fun x r hr => bind_pure (f := fun h i => valO h (indexA P t x i)) hr fun _ _ hr => valO_pure hr
  case typeAssert x xt t ok => exact bind_pure (f := fun h x => valO h (assertA P x t ok)) hs fun _ _ hr => valO_pure hr
  case extract x i => exact bind_pure (f := fun h x => valO h (extractA x i)) hs fun _ _ hr => valO_pure hr
  case call c =>
    obtain ⟨callee, args, argTypes⟩ := c
    cases callee with
    | value f => cases hk
    | invoke _ _ => cases hk
    | builtin b =>
      cases b <;> try (cases hk; done)
      all_goals
        dsimp only [stepA] at hs ⊢
        split at hs <;> try (cases hs; done)
        unfold builtinA at hs ⊢
        split at hs <;> try (cases hs; done)
        all_goals first | exact valO_pure hs | (simp_all; done)

theorem stepA_load {o : Op} {r : ARes} (hk : kindOf o = .load) (hs : stepA P G F o h = some r) : ∃ a, r = .val a h := by
  cases o <;> try (cases hk; done)
  case load t x =>
    obtain ⟨_, _, hs⟩ := bind1_some hs
    obtain ⟨a, ha, rfl⟩ := valO_some hs
    exact ⟨a, rfl⟩
  case lookup t x k ok =>
    obtain ⟨_, _, hs⟩ := bind1_some hs
    obtain ⟨_, _, hs⟩ := bind1_some hs
    obtain ⟨a, ha, rfl⟩ := valO_some hs
    exact ⟨a, rfl⟩
  case call c =>
    obtain ⟨callee, args, argTypes⟩ := c
    cases callee with
    | value f => cases hk
    | invoke _ _ => cases hk
    | builtin b =>
      cases b <;> try (cases hk; done)
      dsimp only [stepA] at hs
      split at hs <;> try (cases hs; done)
      unfold builtinA at hs
      split at hs <;> try (cases hs; done)
      all_goals
        first
          | (obtain ⟨a, ha, rfl⟩ := valO_some hs; exact ⟨a, rfl⟩)
          | simp_all

theorem stepA_new {o : Op} {r : ARes} (hk : kindOf o = .new) (hs : stepA P G F o h = some r) :
    ∃ a g, IsNew g ∧ r = .val a (g h) ∧ ∀ H : AH, H.next = h.next → stepA P G F o H = some (.val a (g H)) := by
  cases o <;> try (cases hk; done)
  case alloc t =>
    dsimp only [stepA] at hs ⊢
    unfold allocA at hs ⊢
    split at hs <;> cases hs
    exact ⟨_, _, .cells _, rfl, fun H hH => by simp only [hH]; rfl⟩
  case box t x =>
    dsimp only [stepA] at hs ⊢
    obtain ⟨y, hy, hs⟩ := bind1_some hs
    cases hs
    exact ⟨_, _, .cells _, rfl, fun H hH => by simp only [hy, bind1, boxA, hH, valP]⟩
  case buildSlice t n ps =>
    dsimp only [stepA] at hs ⊢
    split at hs <;> try (cases hs; done)
    unfold buildSliceA at hs ⊢
    split at hs <;> try (cases hs; done)
    split at hs <;> try (cases hs; done)
    split at hs <;> try (cases hs; done)
    split at hs <;> cases hs
    exact ⟨_, _, .cells _, rfl, fun H hH => by simp only [hH]; rfl⟩
  case makeSlice t l c =>
    dsimp only [stepA] at hs ⊢
    obtain ⟨y, hy, hs⟩ := bind1_some hs
    obtain ⟨z, hz, hs⟩ := bind1_some hs
    simp only [hy, hz, bind1]
    unfold makeSliceA at hs ⊢
    split at hs <;> try (cases hs; done)
    split at hs <;> try (cases hs; done)
    split at hs <;> cases hs
    exact ⟨_, _, .cells _, rfl, fun H hH => by simp only [hH]; rfl⟩
  case makeMap t r =>
    cases r with
    | some r => cases hs
    | none =>
      cases hs
      exact ⟨_, _, .obj (.map [] 0) rfl, rfl, fun H hH => by
        show some (ARes.val (.map H.next) _) = _
        rw [hH]⟩
  case call c =>
    obtain ⟨callee, args, argTypes⟩ := c
    cases callee with
    | value f => cases hk
    | invoke _ _ => cases hk
    | builtin b => cases b <;> cases hk
end
end
end Go.Proofs.Ytllldiokcnheiaa.Ab

namespace Go.Proofs.Ytllldiokcnheiaa.Ab
noncomputable section
section
variable {P : Program} {G : Nat} {μ ν : Places} {h h' H R : AH} {w w' : World}

/-- No block of the one lies where a block of the other one lies. -/
def Apart (μ : Places) (h R : AH) : Prop := ∀ b B L c C M, h.at b = some B → R.at c = some C → μ b = some L → μ c = some M → L.blk ≠ M.blk

theorem Apart.symm (ha : Apart μ h R) : Apart μ R h := fun b B L c C M h1 h2 h3 h4 e => ha c C M b B L h2 h1 h4 h3 e.symm

/-- Names that are free. -/
def FreeIn (μ : Places) (lo hi : Nat) : Prop := ∀ b, lo ≤ b → b < hi → μ b = none

/-- The rest of the memory stays. -/
theorem RelH.rest (hh : RelH μ h w) (hr : RelH μ R w) (hap : Apart μ h R) (ha : Adv μ h w ν h' w') : RelH ν R w' := by
  have hle := ha.le
  have place : ∀ {b B}, R.at b = some B → ∃ L, μ b = some L ∧ ν b = some L := fun hb => by
    obtain ⟨L, hL⟩ := (hr.rel _ _ hb).place
    exact ⟨L, hL, hle _ _ hL⟩
  refine ⟨fun b B hb => ?_, hr.lt, hr.pos, hr.famlt, fun b c B C L M hb hc hne hL hM he => ?_, hr.fams⟩
  · obtain ⟨L, hL, _⟩ := place hb
    refine (hr.rel b B hb).move hle hL (ha.frame _ ((hr.rel b B hb).lt hL) fun c C M hc _ hM he => ?_)
    exact hap c C M b B L hc hb hM hL he
  · obtain ⟨L', hL', hL''⟩ := place hb
    obtain ⟨M', hM', hM''⟩ := place hc
    rw [hL] at hL''; cases hL''
    rw [hM] at hM''; cases hM''
    exact hr.sep b c B C L M hb hc hne hL' hM' he

theorem Apart.rest (hh : RelH μ h w) (hr : RelH μ R w) (hap : Apart μ h R) (ha : Adv μ h w ν h' w') : Apart ν h' R := by
  intro b B L c C M hb hc hL hM he
  obtain ⟨M', hM'⟩ := (hr.rel c C hc).place
  have e := ha.le _ _ hM'
  rw [hM] at e; cases e
  have hlt := (hr.rel c C hc).lt hM'
  rcases ha.live b B hb with ⟨B₀, hB₀, _⟩ | ⟨_, _, L', hL', hor⟩
  · have : μ b = some L := by rw [← ha.agree b (.inl (hh.lt _ _ hB₀))]; exact hL
    exact hap b B₀ L c C M hB₀ hc this hM' he
  · rw [hL] at hL'; cases hL'
    rcases hor with hs | ⟨d, D, N, hD, _, hN, hNe⟩
    · omega
    · exact hap d D N c C M hD hc hN hM' (hNe.trans he)

/-- Two other parts stay apart. -/
theorem Apart.keep {R' : AH} (hr : RelH μ R w) (hr' : RelH μ R' w) (hap : Apart μ R R') (hle : Le μ ν) : Apart ν R R' := by
  intro b B L c C M hb hc hL hM he
  obtain ⟨L', hL'⟩ := (hr.rel b B hb).place
  obtain ⟨M', hM'⟩ := (hr'.rel c C hc).place
  have e1 := hle _ _ hL'
  have e2 := hle _ _ hM'
  rw [hL] at e1; cases e1
  rw [hM] at e2; cases e2
  exact hap b B L c C M hb hc hL' hM' he

def AH.none (n : Nat) : AH := ⟨.e, .e, n⟩

theorem at_none (n b : Nat) : (AH.none n).at b = Option.none := PM.get_e _

theorem none_at {n b : Nat} {B : Blk} (h : (AH.none n).at b = some B) : False := by rw [at_none] at h; cases h

theorem RelH.none {n : Nat} (hn : 0 < n) : RelH μ (AH.none n) w where
  rel := fun b B hb => (none_at hb).elim
  lt := fun b B hb => (none_at hb).elim
  pos := hn
  famlt := fun b cs f hb => (none_at hb).elim
  sep := fun b c B C L M hb => (none_at hb).elim
  fams := fun b cs f hb => (none_at hb).elim

theorem Apart.none {n : Nat} : Apart μ (AH.none n) R := fun b B L c C M hb => (none_at hb).elim

theorem IsNew.next {g : AH → AH} (hg : IsNew g) (h : AH) : (g h).next = h.next + 1 := by cases hg <;> rfl

theorem IsNew.at {g : AH → AH} (hg : IsNew g) : ∃ Bn : Nat → Blk, (∀ h b, (g h).at b = if b = h.next then some (Bn h.next) else h.at b) ∧
    (∀ n f, (Bn n).fam? = some f → f = n ∧ ∀ h : AH, h.next = n → (g h).fams.get n = some [n]) ∧ (∀ h f, f ≠ h.next → (g h).fams.get f = h.fams.get f) ∧ (∀ n, (Bn n).fam? = some n ∨ (Bn n).fam? = Option.none) := by
  cases hg with
  | cells cs =>
    refine ⟨fun n => .cells cs n, fun h b => AH.at_new h cs b, fun n f hf => ?_, fun h f hf => ?_, fun n => .inl rfl⟩
    · cases hf
      refine ⟨rfl, fun h e => ?_⟩
      subst e
      show (h.fams.set h.next [h.next]).get h.next = _
      rw [PM.get_set, if_pos rfl]
    · show (h.fams.set h.next [h.next]).get f = _
      rw [PM.get_set, if_neg hf]
  | obj B hB =>
    refine ⟨fun _ => B, fun h b => AH.at_newObj h B b, fun n f hf => ?_, fun h f hf => rfl, fun n => .inr hB⟩
    rw [hB] at hf; cases hf

/-- A part with one new block, put to the rest. -/
theorem RelH.join {g : AH → AH} (hg : IsNew g) (hh : RelH μ h w) (hp : RelH μ (g (AH.none h.next)) w) (hap : Apart μ h (g (AH.none h.next))) : RelH μ (g h) w := by
  obtain ⟨Bn, hat, hfam, hfams, hkind⟩ := hg.at
  have hn := hg.next h
  have hpos := hh.pos
  have hnew : (g (AH.none h.next)).at h.next = some (Bn h.next) := by rw [hat]; simp [AH.none]
  have famof : ∀ {B : Blk} {cs f}, B = .cells cs f → B.fam? = some f := fun e => by rw [e]; rfl
  refine ⟨fun b B hb => ?_, fun b B hb => ?_, by omega, fun b cs f hb => ?_, fun b c B C L M hb hc hne hL hM he => ?_, fun b cs f hb hf => ?_⟩
  · rw [hat] at hb
    split at hb
    · rename_i e; subst e; cases hb
      exact hp.rel _ _ hnew
    · exact hh.rel b B hb
  · rw [hat] at hb
    split at hb
    · omega
    · have := hh.lt b B hb; omega
  · rw [hat] at hb
    split at hb
    · rename_i e
      have := (hfam h.next f (famof (Option.some.inj hb))).1
      omega
    · have := hh.famlt b cs f hb; omega
  · rw [hat] at hb hc
    split at hb
    · rename_i e; subst e; cases hb
      split at hc
      · rename_i e2; exact absurd e2.symm hne
      · exact absurd he.symm (hap c C M _ _ L hc hnew hM hL)
    · split at hc
      · rename_i e; subst e; cases hc
        exact absurd he (hap b B L _ _ M hb hnew hL hM)
      · exact hh.sep b c B C L M hb hc hne hL hM he
  · rw [hat] at hb
    split at hb
    · rename_i e; subst e
      obtain ⟨h1, h2⟩ := hfam h.next f (famof (Option.some.inj hb))
      subst h1
      exact ⟨_, h2 h rfl, by simp⟩
    · have h1 := hh.famlt b cs f hb
      rw [hfams h f (by omega)]
      exact hh.fams b cs f hb hf

theorem Apart.join {g : AH → AH} (hg : IsNew g) (h1 : Apart μ h R) (h2 : Apart μ (g (AH.none h.next)) R) : Apart μ (g h) R := by
  obtain ⟨Bn, hat, _⟩ := hg.at
  intro b B L c C M hb hc hL hM
  rw [hat] at hb
  split at hb
  · rename_i e; subst e; cases hb
    exact h2 h.next (Bn h.next) L c C M (by rw [hat]; simp [AH.none]) hc hL hM
  · exact h1 b B L c C M hb hc hL hM

/-- As 'Adv', where names up to a bound may have been given to others. -/
structure AdvM (m : Nat) (μ : Places) (h : AH) (w : World) (μ' : Places) (h' : AH) (w' : World) : Prop where
  next_le : h.next ≤ h'.next
  size_le : w.heap.size ≤ w'.heap.size
  agree : ∀ b, (b < h.next ∨ m ≤ b) → μ' b = μ b
  le : Le μ μ'
  live : ∀ b B', h'.at b = some B' → (∃ B, h.at b = some B ∧ (B'.wr → B.wr)) ∨
    (h.next ≤ b ∧ b < h'.next ∧ ∃ L, μ' b = some L ∧ (w.heap.size ≤ L.blk ∨ ∃ c C M, h.at c = some C ∧ C.wr ∧ μ c = some M ∧ M.blk = L.blk))
  frame : ∀ k, k < w.heap.size → (∀ c C M, h.at c = some C → C.wr → μ c = some M → M.blk ≠ k) → w'.heap[k]? = w.heap[k]?
  os : w'.os = w.os
  tape : w'.tape = w.tape
  output : w'.output = w.output

theorem AdvM.refl (m : Nat) (μ : Places) (h : AH) (w : World) : AdvM m μ h w μ h w :=
  ⟨Nat.le_refl _, Nat.le_refl _, fun _ _ => rfl, Le.refl _, fun _ B' hb => .inl ⟨B', hb, id⟩, fun _ _ _ => rfl, rfl, rfl, rfl⟩

theorem AdvM.toAdv {μ' : Places} (a : AdvM h'.next μ h w μ' h' w') : Adv μ h w μ' h' w' := ⟨a.next_le, a.size_le, a.agree, a.le, a.live, a.frame, a.os, a.tape, a.output⟩

/-- A step of the main part. -/
theorem AdvM.trans {m : Nat} {μ₁ μ₂ : Places} {h₁ h₂ : AH} {w₁ w₂ : World} (a : AdvM m μ h w μ₁ h₁ w₁) (b : Adv μ₁ h₁ w₁ μ₂ h₂ w₂) (hr : RelH μ h w) (hm : h₂.next ≤ m) : AdvM m μ h w μ₂ h₂ w₂ where
  next_le := Nat.le_trans a.next_le b.next_le
  size_le := Nat.le_trans a.size_le b.size_le
  agree := fun c hc => by
    have h1 := a.next_le
    have h2 := b.next_le
    rw [b.agree c (by omega), a.agree c (by omega)]
  le := a.le.trans b.le
  live := fun c C hc => by
    have h1 := a.next_le
    have h2 := b.next_le
    rcases b.live c C hc with ⟨C₁, hC₁, hw₁⟩ | ⟨hl, hg, L, hL, hor⟩
    · rcases a.live c C₁ hC₁ with ⟨C₀, hC₀, hw₀⟩ | ⟨hl, hg, L, hL, hor⟩
      · exact .inl ⟨C₀, hC₀, fun h => hw₀ (hw₁ h)⟩
      · exact .inr ⟨hl, by omega, L, b.le _ _ hL, hor⟩
    · refine .inr ⟨by omega, hg, L, hL, ?_⟩
      rcases hor with hs | ⟨d, D, M, hD, hwD, hM, he⟩
      · exact .inl (Nat.le_trans a.size_le hs)
      · rcases a.live d D hD with ⟨D₀, hD₀, hw₀⟩ | ⟨hl', hg', L', hL', hor'⟩
        · refine .inr ⟨d, D₀, M, hD₀, hw₀ hwD, ?_, he⟩
          rw [← a.agree d (.inl (hr.lt _ _ hD₀))]; exact hM
        · rw [hM] at hL'; cases hL'
          rcases hor' with hs | ⟨d', D', M', hD', hwD', hM', he'⟩
          · exact .inl (he ▸ hs)
          · exact .inr ⟨d', D', M', hD', hwD', hM', he'.trans he⟩
  frame := fun k hk hno => by
    rw [b.frame k (Nat.lt_of_lt_of_le hk a.size_le) ?_, a.frame k hk hno]
    intro c C M hC hw hM he
    rcases a.live c C hC with ⟨C₀, hC₀, hw₀⟩ | ⟨hl, hg, L, hL, hor⟩
    · refine hno c C₀ M hC₀ (hw₀ hw) ?_ he
      rw [← a.agree c (.inl (hr.lt _ _ hC₀))]; exact hM
    · rw [hM] at hL; cases hL
      rcases hor with hs | ⟨d', D', M', hD', hwD', hM', he'⟩
      · omega
      · exact hno d' D' M' hD' hwD' hM' (he'.trans he)
  os := b.os.trans a.os
  tape := b.tape.trans a.tape
  output := b.output.trans a.output

/-- A step of a part that began with nothing. -/
theorem AdvM.side {m n : Nat} {μ₁ μ₂ : Places} {h₁ h₂ : AH} {w₁ w₂ : World} (a : AdvM m μ h w μ₁ h₁ w₁) (b : Adv μ₁ (AH.none n) w₁ μ₂ h₂ w₂) (hr : RelH μ₁ h₁ w₁) (hn : h.next ≤ n) (hm : h₂.next ≤ m) :
    AdvM m μ h w μ₂ h₁ w₂ where
  next_le := a.next_le
  size_le := Nat.le_trans a.size_le b.size_le
  agree := fun c hc => by
    have h1 : n ≤ h₂.next := b.next_le
    rw [b.agree c (by show c < n ∨ h₂.next ≤ c; omega), a.agree c (by omega)]
  le := a.le.trans b.le
  live := fun c C hc => by
    rcases a.live c C hc with ⟨C₀, hC₀, hw₀⟩ | ⟨hl, hg, L, hL, hor⟩
    · exact .inl ⟨C₀, hC₀, hw₀⟩
    · exact .inr ⟨hl, hg, L, b.le _ _ hL, hor⟩
  frame := fun k hk hno => by
    rw [b.frame k (Nat.lt_of_lt_of_le hk a.size_le) (fun c C M hC => by rw [at_none] at hC; cases hC), a.frame k hk hno]
  os := b.os.trans a.os
  tape := b.tape.trans a.tape
  output := b.output.trans a.output

/-- A new block, put to the rest. -/
theorem AdvM.join {m : Nat} {μ₁ : Places} {h₁ : AH} {w₁ : World} {g : AH → AH} (hg : IsNew g) (a : AdvM m μ h w μ₁ h₁ w₁) (hp : ∃ L, μ₁ h₁.next = some L ∧ w.heap.size ≤ L.blk) : AdvM m μ h w μ₁ (g h₁) w₁ where
  next_le := by have := hg.next h₁; have := a.next_le; omega
  size_le := a.size_le
  agree := a.agree
  le := a.le
  live := fun c C hc => by
    obtain ⟨Bn, hat, _⟩ := hg.at
    have h1 := hg.next h₁
    have h2 := a.next_le
    rw [hat] at hc
    split at hc
    · rename_i e; subst e
      obtain ⟨L, hL, hs⟩ := hp
      exact .inr ⟨h2, by omega, L, hL, .inl hs⟩
    · rcases a.live c C hc with h | ⟨hl, hg', L, hL, hor⟩
      · exact .inl h
      · exact .inr ⟨hl, by omega, L, hL, hor⟩
  frame := a.frame
  os := a.os
  tape := a.tape
  output := a.output

/-! ### Equal plain values -/

theorem eqB_true {a b : Bool} (h : eqB a b = true) : a = b := by cases a <;> cases b <;> first | rfl | cases h

mutual
theorem AV.same_eq : ∀ {a b : AV}, a.same b = true → a = b
  | .bool a, b, h => by cases b <;> simp only [AV.same] at h <;> first | (cases h; done) | (rw [eqB_true h])
  | .int k a, b, h => by
    cases b <;> simp only [AV.same] at h <;> try (cases h; done)
    rename_i k' a'
    split at h <;> try (cases h; done)
    rename_i hk
    have hk := of_decide_eq_true hk
    have := eqF_true h
    rw [hk, this]
  | .str a, b, h => by
    cases b <;> simp only [AV.same] at h <;> try (cases h; done)
    rename_i s
    have := eq_of_beq h
    have : a.data = s.data := Array.ext' this
    cases a; cases s; simp_all
  | .nilp, b, h => by cases b <;> simp only [AV.same] at h <;> first | rfl | cases h
  | .ptr p o, b, h => by
    cases b <;> simp only [AV.same] at h <;> try (cases h; done)
    split at h <;> try (cases h; done)
    rename_i e
    rw [Nat.eq_of_beq_eq_true e, Nat.eq_of_beq_eq_true h]
  | .nils, b, h => by cases b <;> simp only [AV.same] at h <;> first | rfl | cases h
  | .sl p o l c z e, b, h => by
    cases b <;> simp only [AV.same] at h <;> try (cases h; done)
    split at h <;> try (cases h; done)
    rename_i e1 e2 e3 e4 e5 e6
    rw [Nat.eq_of_beq_eq_true e1, Nat.eq_of_beq_eq_true e2, Nat.eq_of_beq_eq_true e3, Nat.eq_of_beq_eq_true e4, Nat.eq_of_beq_eq_true e5, eqB_true e6]
  | .nilm, b, h => by cases b <;> simp only [AV.same] at h <;> first | rfl | cases h
  | .map p, b, h => by
    cases b <;> simp only [AV.same] at h <;> try (cases h; done)
    rw [Nat.eq_of_beq_eq_true h]
  | .fn f as bs, b, h => by
    cases b <;> simp only [AV.same] at h <;> try (cases h; done)
    split at h <;> try (cases h; done)
    rename_i e1 e2 e3
    rw [of_decide_eq_true e1, sames_eq e2, sames_eq e3]
  | .nilf, b, h => by cases b <;> simp only [AV.same] at h <;> first | rfl | cases h
  | .iface t v, b, h => by
    cases b <;> simp only [AV.same] at h <;> try (cases h; done)
    split at h <;> try (cases h; done)
    rename_i e
    rw [Nat.eq_of_beq_eq_true e, AV.same_eq h]
  | .nili, b, h => by cases b <;> simp only [AV.same] at h <;> first | rfl | cases h
  | .agg as, b, h => by
    cases b <;> simp only [AV.same] at h <;> try (cases h; done)
    rw [sames_eq h]
  | .tup as, b, h => by
    cases b <;> simp only [AV.same] at h <;> try (cases h; done)
    rw [sames_eq h]
theorem sames_eq : ∀ {as bs : List AV}, sames as bs = true → as = bs
  | [], bs, h => by cases bs <;> simp only [sames] at h <;> first | rfl | cases h
  | a :: r, bs, h => by
    cases bs <;> simp only [sames] at h <;> try (cases h; done)
    split at h <;> try (cases h; done)
    rename_i e
    rw [AV.same_eq e, sames_eq h]
end
end
end
end Go.Proofs.Ytllldiokcnheiaa.Ab

namespace Go.Proofs.Ytllldiokcnheiaa.Ab
noncomputable section
section
variable {P : Program} {G N : Nat} {call : CallF} {ops : Array Oper}

/-- What an operation that is no effect does to the memory. -/
def SideK (P : Program) (G : Nat) (ops : Array Oper) (o : Oper) (F : Fr) (h : AH) (v : AV) (h' : AH) (g : AH → AH) : Prop :=
  h' = g h ∧ ((IsNew g ∧ ∀ H : AH, H.next = h.next → ∀ call, doOp P G call ops.toList o F H = some (v, g H)) ∨
    (g = id ∧ ((kindOf o.op = .load ∧ ∀ call, doOp P G call ops.toList o F h = some (v, h)) ∨ ∀ H call, doOp P G call ops.toList o F H = some (v, H))))

theorem doOp_load {o : Oper} {F : Fr} {h h' : AH} {v : AV} (hk : kindOf o.op = .load) (hd : doOp P G call ops.toList o F h = some (v, h')) :
    h' = h ∧ ∀ call, doOp P G call ops.toList o F h = some (v, h) := by
  unfold doOp at hd ⊢
  simp only [stepT_eq] at hd ⊢
  split at hd <;> try (cases hd; done)
  · cases hd; exact ⟨rfl, fun _ => rfl⟩
  · split at hd <;> try (cases hd; done)
    · rename_i hs
      obtain ⟨a, e⟩ := stepA_load hk hs
      cases e; cases hd
      exact ⟨rfl, fun _ => by simp only [hs]⟩
    · rename_i hs
      obtain ⟨a, e⟩ := stepA_load hk hs
      cases e

theorem doOp_side {o : Oper} {F : Fr} {h h' : AH} {v : AV} (hk : kindOf o.op ≠ .eff) (hd : doOp P G call ops.toList o F h = some (v, h')) :
    ∃ g, SideK P G ops o F h v h' g := by
  by_cases hl : kindOf o.op = .load
  · obtain ⟨h1, h2⟩ := doOp_load hl hd
    exact ⟨id, h1, .inr ⟨rfl, .inl ⟨hl, h2⟩⟩⟩
  unfold SideK
  unfold doOp at hd ⊢
  simp only [stepT_eq] at hd ⊢
  split at hd <;> try (cases hd; done)
  · rename_i hw
    cases hd
    exact ⟨id, rfl, .inr ⟨rfl, .inr fun H call => rfl⟩⟩
  · rename_i hw
    split at hd <;> try (cases hd; done)
    · rename_i a h1 hs
      cases hd
      cases hk' : kindOf o.op with
      | pure =>
        obtain ⟨b, e, hall⟩ := stepA_pure hk' hs
        cases e
        exact ⟨id, rfl, .inr ⟨rfl, .inr fun H call => by simp only [hall H]⟩⟩
      | load => exact absurd hk' hl
      | new =>
        obtain ⟨b, g, hg, e, hall⟩ := stepA_new hk' hs
        cases e
        exact ⟨g, rfl, .inl ⟨hg, fun H hH call => by simp only [hall H hH]⟩⟩
      | eff => exact absurd hk' hk
    · rename_i f args hs
      cases hk' : kindOf o.op with
      | pure => obtain ⟨b, e, hall⟩ := stepA_pure hk' hs; cases e
      | load => exact absurd hk' hl
      | new => obtain ⟨b, g, hg, e, hall⟩ := stepA_new hk' hs; cases e
      | eff => exact absurd hk' hk

/-- A run of all operations in one order. -/
structure Ref (P : Program) (G N : Nat) (call : CallF) (ops : Array Oper) (L : List Nat) (Fp : Nat → Fr) (hp : Nat → AH) (vp : Nat → AV) : Prop where
  run : ∀ (p i : Nat), L[p]? = some i → ∃ o, ops[i]? = some o ∧ doOp P G call ops.toList o (Fp p) (hp p) = some (vp p, hp (p + 1)) ∧ putA N (Fp p) o.dst (vp p) = some (Fp (p + 1))

def ransOf (L : List Nat) (Fp : Nat → Fr) (hp : Nat → AH) (vp : Nat → AV) : Nat → List Ran
  | 0 => []
  | p + 1 => ⟨L.getD p 0, Fp p, hp p, vp p, hp (p + 1)⟩ :: ransOf L Fp hp vp p

theorem ransOf_shift (i : Nat) (r : List Nat) (F : Fr) (h : AH) (v : AV) (Fp : Nat → Fr) (hp : Nat → AH) (vp : Nat → AV) : ∀ n,
    ransOf (i :: r) (fun p => match p with | 0 => F | p + 1 => Fp p) (fun p => match p with | 0 => h | p + 1 => hp p) (fun p => match p with | 0 => v | p + 1 => vp p) (n + 1) =
      ransOf r Fp hp vp n ++ [⟨i, F, h, v, hp 0⟩]
  | 0 => by simp [ransOf]
  | n + 1 => by
    rw [ransOf, ransOf_shift i r F h v Fp hp vp n]
    simp [ransOf]

theorem runCanon_ref : ∀ {L : List Nat} {F F' : Fr} {h h' : AH} {rs rs' : List Ran}, runCanon P G call N ops.toList L F h rs = some (F', h', rs') →
    ∃ Fp hp vp, Ref P G N call ops L Fp hp vp ∧ Fp 0 = F ∧ hp 0 = h ∧ Fp L.length = F' ∧ hp L.length = h' ∧ rs' = ransOf L Fp hp vp L.length ++ rs
  | [], F, F', h, h', rs, rs', hr => by
    cases hr
    exact ⟨fun _ => F, fun _ => h, fun _ => .nilp, ⟨fun p i hi => by simp at hi⟩, rfl, rfl, rfl, rfl, rfl⟩
  | i :: r, F, F', h, h', rs, rs', hr => by
    unfold runCanon at hr
    split at hr <;> try (cases hr; done)
    rename_i o ho
    split at hr <;> try (cases hr; done)
    rename_i v h1 hd
    split at hr <;> try (cases hr; done)
    rename_i F1 hp1
    obtain ⟨Fp, hp, vp, hR, e1, e2, e3, e4, e5⟩ := runCanon_ref hr
    refine ⟨fun p => match p with | 0 => F | p + 1 => Fp p, fun p => match p with | 0 => h | p + 1 => hp p, fun p => match p with | 0 => v | p + 1 => vp p, ⟨fun p j hj => ?_⟩, rfl, rfl, e3, e4, ?_⟩
    · cases p with
      | zero =>
        simp at hj; subst hj
        exact ⟨o, by simpa using ho, by show doOp P G call ops.toList o F h = some (v, hp 0); rw [e2]; exact hd, by show putA N F o.dst v = some (Fp 0); rw [e1]; exact hp1⟩
      | succ p => exact hR.run p j (by simpa using hj)
    · rw [e5, List.length_cons, ransOf_shift, e2]; simp

section ref
variable {L : List Nat} {Fp : Nat → Fr} {hp : Nat → AH} {vp : Nat → AV}

theorem Ref.next (hc : CallNext call) (hR : Ref P G N call ops L Fp hp vp) {p : Nat} (hlt : p < L.length) : (hp p).next ≤ (hp (p + 1)).next := by
  obtain ⟨o, _, h2, _⟩ := hR.run p _ (List.getElem?_eq_getElem hlt)
  exact doOp_next hc h2

theorem Ref.next_le (hc : CallNext call) (hR : Ref P G N call ops L Fp hp vp) {p q : Nat} (hpq : p ≤ q) (hq : q ≤ L.length) : (hp p).next ≤ (hp q).next := by
  induction q with
  | zero => have : p = 0 := by omega
            subst this; exact Nat.le_refl _
  | succ q ih =>
    by_cases h : p = q + 1
    · subst h; exact Nat.le_refl _
    · exact Nat.le_trans (ih (by omega) (by omega)) (hR.next hc (by omega))

/-- The slots before position p. -/
theorem Ref.slots (hR : Ref P G N call ops L Fp hp vp) {t : Nat} {x : AV} : ∀ {p : Nat}, p ≤ L.length → (Fp p).get t = some x →
    (∃ (p1 i : Nat) (o : Oper), p1 < p ∧ L[p1]? = some i ∧ ops[i]? = some o ∧ o.dst = some t ∧ vp p1 = x ∧ p1 < N + p1 ∧ t < N ∧
      ∀ (p2 i2 : Nat) (o2 : Oper), p1 < p2 → p2 < p → L[p2]? = some i2 → ops[i2]? = some o2 → o2.dst ≠ some t) ∨
    ((∀ (p2 i2 : Nat) (o2 : Oper), p2 < p → L[p2]? = some i2 → ops[i2]? = some o2 → o2.dst ≠ some t) ∧ (Fp 0).get t = some x)
  | 0, _, h => .inr ⟨fun p2 _ _ h2 => by omega, h⟩
  | p + 1, hle, h => by
    obtain ⟨o, ho, _, hput⟩ := hR.run p _ (List.getElem?_eq_getElem (by omega : p < L.length))
    have hLp : L[p]? = some (L[p]'(by omega)) := List.getElem?_eq_getElem (by omega : p < L.length)
    have uniq : ∀ {i2 : Nat} {o2 : Oper}, L[p]? = some i2 → ops[i2]? = some o2 → o2 = o := fun h1 h2 => by
      rw [hLp] at h1; cases h1; rw [ho] at h2; cases h2; rfl
    have stay : o.dst ≠ some t → (Fp p).get t = some x → _ := fun hne hg => Ref.slots hR (p := p) (by omega) hg
    have lift : o.dst ≠ some t → (Fp p).get t = some x →
      (∃ (p1 i : Nat) (o : Oper), p1 < p + 1 ∧ L[p1]? = some i ∧ ops[i]? = some o ∧ o.dst = some t ∧ vp p1 = x ∧ p1 < N + p1 ∧ t < N ∧
        ∀ (p2 i2 : Nat) (o2 : Oper), p1 < p2 → p2 < p + 1 → L[p2]? = some i2 → ops[i2]? = some o2 → o2.dst ≠ some t) ∨
      ((∀ (p2 i2 : Nat) (o2 : Oper), p2 < p + 1 → L[p2]? = some i2 → ops[i2]? = some o2 → o2.dst ≠ some t) ∧ (Fp 0).get t = some x) := fun hne hg => by
      rcases stay hne hg with ⟨p1, i, o1, a1, a2, a3, a4, a5, a6, a6', a7⟩ | ⟨a1, a2⟩
      · refine .inl ⟨p1, i, o1, by omega, a2, a3, a4, a5, a6, a6', fun p2 i2 o2 b1 b2 b3 b4 => ?_⟩
        by_cases e : p2 = p
        · subst e; rw [uniq b3 b4]; exact hne
        · exact a7 p2 i2 o2 b1 (by omega) b3 b4
      · refine .inr ⟨fun p2 i2 o2 b2 b3 b4 => ?_, a2⟩
        by_cases e : p2 = p
        · subst e; rw [uniq b3 b4]; exact hne
        · exact a1 p2 i2 o2 (by omega) b3 b4
    unfold putA at hput
    split at hput
    · rename_i hd
      have hput := Option.some.inj hput
      exact lift (by rw [hd]; simp) (by rw [hput]; exact h)
    · rename_i u hd
      split at hput <;> try (cases hput; done)
      rename_i hu
      have hput := Option.some.inj hput
      rw [← hput, Fr.get_set] at h
      split at h
      · rename_i e; subst e; cases h
        have hu : t < N := Nat.le_of_ble_eq_true hu
        exact .inl ⟨p, _, o, by omega, hLp, ho, hd, rfl, by omega, hu, fun p2 _ _ h1 h2 => by omega⟩
      · rename_i hne
        exact lift (by rw [hd]; intro e; cases e; exact hne rfl) h

/-- A load at another memory at which it may be carried out. -/
theorem load_snap {B : List Nat} {i p : Nat} {o : Oper} (hR : Ref P G N call ops L Fp hp vp) (hB : B.getD ops.size 0 = 0) (hk : kindOf o.op = .load) {F : Fr} {v : AV} {hq hq' : AH} :
    ∀ {r q : Nat}, q ≤ r → r ≤ L.length → loadOk P G ops.toList B ⟨i, F, hq, v, hq'⟩ o (snaps ops.toList (hp 0) (ransOf L Fp hp vp r)) = true →
      (q = 0 ∨ ∃ (j : Nat) (o' : Oper), L[q - 1]? = some j ∧ ops[j]? = some o' ∧ isEff o' ∧ bit (B.getD j 0) i = false) →
      (∀ (p' j : Nat) (o' : Oper), q ≤ p' → L[p']? = some j → ops[j]? = some o' → isEff o' → bit (B.getD i 0) j = false) →
      ∀ call, doOp P G call ops.toList o F (hp q) = some (v, hp q)
  | 0, q, hqr, _, hl, _, _ => by
    have : q = 0 := by omega
    subst this
    unfold ransOf snaps loadOk at hl
    have hlen : ops.toList.length = ops.size := by simp
    rw [hlen, hB, bit_zero] at hl
    dsimp only at hl
    split at hl <;> try (cases hl; done)
    rename_i a h1 hd
    split at hl <;> try (cases hl; done)
    rename_i hs
    have := AV.same_eq hs
    subst this
    obtain ⟨h2, h3⟩ := doOp_load hk hd
    exact h3
  | r + 1, q, hqr, hrl, hl, hfront, hno => by
    have hLr : L[r]? = some (L[r]'(by omega)) := List.getElem?_eq_getElem (by omega : r < L.length)
    obtain ⟨or, hor, _, _⟩ := hR.run r _ hLr
    have hgd : L.getD r 0 = L[r]'(by omega) := by rw [List.getD_eq_getElem?_getD, hLr]; rfl
    unfold ransOf snaps at hl
    dsimp only at hl
    rw [hgd] at hl
    have hor' : ops.toList[L[r]'(by omega)]? = some or := by simpa using hor
    rw [hor'] at hl
    dsimp only at hl
    by_cases hq1 : q = r + 1
    · subst hq1
      rcases hfront with h | ⟨j, o', hj, ho', he, hb⟩
      · omega
      · rw [show r + 1 - 1 = r from rfl, hLr] at hj; cases hj
        rw [hor] at ho'; cases ho'
        unfold isEff at he
        rw [he] at hl
        dsimp only at hl
        unfold loadOk at hl
        rw [hb] at hl
        dsimp only at hl
        split at hl <;> try (cases hl; done)
        rename_i a h1 hd
        split at hl <;> try (cases hl; done)
        rename_i hs
        have := AV.same_eq hs
        subst this
        obtain ⟨h2, h3⟩ := doOp_load hk hd
        exact h3
    · have ih := load_snap (i := i) (p := p) hR hB hk (F := F) (v := v) (hq := hq) (hq' := hq') (r := r) (q := q) (by omega) (by omega)
      cases hkr : kindOf or.op with
      | eff =>
        rw [hkr] at hl
        dsimp only at hl
        unfold loadOk at hl
        split at hl
        · exact ih hl hfront hno
        · split at hl <;> try (cases hl; done)
          split at hl <;> try (cases hl; done)
          rw [hno r _ or (by omega) hLr hor hkr] at hl
          exact ih hl hfront hno
      | pure => rw [hkr] at hl; exact ih hl hfront hno
      | load => rw [hkr] at hl; exact ih hl hfront hno
      | new => rw [hkr] at hl; exact ih hl hfront hno

theorem loadsOk_mem {B : List Nat} {xs : List (Nat × AH)} : ∀ {rs : List Ran}, loadsOk P G ops.toList B xs rs = true → ∀ r ∈ rs, ∀ o, ops[r.i]? = some o → kindOf o.op = .load → loadOk P G ops.toList B r o xs = true
  | [], _, r, hr, _, _, _ => by simp at hr
  | r' :: rs, h, r, hr, o, ho, hk => by
    unfold loadsOk at h
    rcases List.mem_cons.1 hr with e | hr
    · subst e
      have : ops.toList[r.i]? = some o := by simpa using ho
      rw [this] at h
      dsimp only at h
      rw [hk] at h
      dsimp only at h
      split at h
      · assumption
      · cases h
    · refine loadsOk_mem (rs := rs) ?_ r hr o ho hk
      split at h <;> try (cases h; done)
      split at h
      · split at h
        · exact h
        · cases h
      · exact h

theorem mem_ransOf {p : Nat} : ∀ {n : Nat}, p < n → (⟨L.getD p 0, Fp p, hp p, vp p, hp (p + 1)⟩ : Ran) ∈ ransOf L Fp hp vp n
  | 0, h => by omega
  | n + 1, h => by
    unfold ransOf
    by_cases e : p = n
    · subst e; simp
    · exact List.mem_cons_of_mem _ (mem_ransOf (by omega))
end ref
end
end
end Go.Proofs.Ytllldiokcnheiaa.Ab

namespace Go.Proofs.Ytllldiokcnheiaa.Ab
noncomputable section
section
variable {P : Program} {G N : Nat} {call : CallF} {ops : Array Oper} {B L : List Nat} {Fp : Nat → Fr} {hp : Nat → AH} {vp : Nat → AV} {gp : Nat → AH → AH}

/-- What is known of the region and of its run in one order. -/
structure Fix (P : Program) (G N : Nat) (call : CallF) (ops : Array Oper) (B L : List Nat) (Fp : Nat → Fr) (hp : Nat → AH) (vp : Nat → AV) (gp : Nat → AH → AH) : Prop where
  ref : Ref P G N call ops L Fp hp vp
  ord : OrderOk ops B L
  all : ∀ i, i < ops.size → ∃ p : Nat, L[p]? = some i
  mask : ∀ i, MaskOk ops i (B.getD i 0)
  pairs : ∀ (i j : Nat) (x y : Oper), ops[i]? = some x → ops[j]? = some y → i ≠ j → bit (B.getD i 0) j = true ∨ bit (B.getD j 0) i = true ∨ x.apart ops y = true
  side : ∀ (p i : Nat) (o : Oper), L[p]? = some i → ops[i]? = some o → ¬ isEff o → SideK P G ops o (Fp p) (hp p) (vp p) (hp (p + 1)) (gp p)
  loads : ∀ (p i q : Nat) (o : Oper), L[p]? = some i → ops[i]? = some o → kindOf o.op = .load → q ≤ L.length →
    (q = 0 ∨ ∃ (j : Nat) (o' : Oper), L[q - 1]? = some j ∧ ops[j]? = some o' ∧ isEff o' ∧ bit (B.getD j 0) i = false) →
    (∀ (p' j : Nat) (o' : Oper), q ≤ p' → L[p']? = some j → ops[j]? = some o' → isEff o' → bit (B.getD i 0) j = false) →
    ∀ call, doOp P G call ops.toList o (Fp p) (hp q) = some (vp p, hp q)
  nx : CallNext call
  ck : CallOk P G call
  pos : 0 < (hp 0).next

/-- The slot's value behind the operations of a set. -/
def Cur (ops : Array Oper) (L : List Nat) (vp : Nat → AV) (F₀ : Fr) (S : Nat → Prop) (t : Nat) (x : AV) : Prop :=
  (∃ (p i : Nat) (o : Oper), L[p]? = some i ∧ ops[i]? = some o ∧ S i ∧ o.dst = some t ∧ vp p = x ∧
    ∀ (p2 i2 : Nat) (o2 : Oper), p < p2 → L[p2]? = some i2 → ops[i2]? = some o2 → S i2 → o2.dst ≠ some t) ∨
  ((∀ (p2 i2 : Nat) (o2 : Oper), L[p2]? = some i2 → ops[i2]? = some o2 → S i2 → o2.dst ≠ some t) ∧ F₀.get t = some x)

/-- The part of the memory that the operation at a place has made by itself. -/
def part (hp : Nat → AH) (gp : Nat → AH → AH) (p : Nat) : AH := gp p (AH.none (hp p).next)

structure Inv (G N : Nat) (ops : Array Oper) (L : List Nat) (Fp : Nat → Fr) (hp : Nat → AH) (vp : Nat → AV) (gp : Nat → AH → AH) (μ₀ : Places) (w₀ : World) (S : Nat → Prop) (q : Nat) (μ : Places) (a : Act) (w : World) : Prop where
  le : q ≤ L.length
  low : ∀ p i : Nat, p < q → L[p]? = some i → S i
  high : ∀ (p i : Nat) (o : Oper), q ≤ p → L[p]? = some i → ops[i]? = some o → isEff o → ¬ S i
  front : q = 0 ∨ ∃ (j : Nat) (o' : Oper), L[q - 1]? = some j ∧ ops[j]? = some o' ∧ isEff o'
  rel : RelH μ (hp q) w
  parts : ∀ p i : Nat, q ≤ p → L[p]? = some i → S i → RelH μ (part hp gp p) w ∧ Apart μ (hp q) (part hp gp p)
  two : ∀ p p' i i' : Nat, q ≤ p → q ≤ p' → p ≠ p' → L[p]? = some i → L[p']? = some i' → S i → S i' → Apart μ (part hp gp p) (part hp gp p')
  new : ∀ p i : Nat, q ≤ p → L[p]? = some i → S i → IsNew (gp p) → ∃ K, μ (hp p).next = some K ∧ w₀.heap.size ≤ K.blk
  free : ∀ p i : Nat, q ≤ p → L[p]? = some i → ¬ S i → FreeIn μ (hp p).next (hp (p + 1)).next
  slots : ∀ t x, Cur ops L vp (Fp 0) S t x → VRel μ x (a.tmps.getD t undef)
  rel0 : RelH μ₀ (hp 0) w₀
  adv : AdvM (hp L.length).next μ₀ (hp 0) w₀ μ (hp q) w
  gl : GRel μ G
  sz : N ≤ a.tmps.size
  df : a.defers = []

def plus (S : Nat → Prop) (i : Nat) : Nat → Prop := fun j => S j ∨ j = i

theorem closed_plus {S : Nat → Prop} {i : Nat} {o : Oper} (hcl : Closed ops S) (ho : ops[i]? = some o) (hrd : ∀ e ∈ o.after, Region.binds .any e = true → S e.on) : Closed ops (plus S i) := by
  intro j o' hj hS e he hb
  rcases hS with hS | hS
  · exact .inl (hcl j o' hj hS e he hb)
  · subst hS; rw [ho] at hj; cases hj; exact .inl (hrd e he hb)

variable (fx : Fix P G N call ops B L Fp hp vp gp)
include fx

/-- Of two operations that touch one slot one is to be done first. -/
theorem Fix.sides {S : Nat → Prop} {i p i' p' : Nat} {o o' : Oper} (hcl : Closed ops S) (hni : ¬ S i) (ho : ops[i]? = some o) (hrd : ∀ e ∈ o.after, Region.binds .any e = true → S e.on)
    (hp1 : L[p]? = some i) (hp2 : L[p']? = some i') (ho' : ops[i']? = some o') (hne : i ≠ i') (hap : o.apart ops o' ≠ true) : (S i' ∧ p' < p) ∨ (¬ S i' ∧ p < p') := by
  rcases fx.pairs i i' o o' ho ho' hne with h | h | h
  · have h1 := fx.mask i (plus S i) (closed_plus hcl ho hrd) (.inr rfl) i' h
    obtain ⟨q, hq, hq'⟩ := fx.ord.before p i i' hp1 h
    have := fx.ord.inj q p' i' hq' hp2
    subst this
    rcases h1 with h1 | h1
    · exact .inl ⟨h1, hq⟩
    · exact absurd h1.symm hne
  · obtain ⟨q, hq, hq'⟩ := fx.ord.before p' i' i hp2 h
    have := fx.ord.inj q p i hq' hp1
    subst this
    exact .inr ⟨fun hS => hni (fx.mask i' S hcl hS i h), hq⟩
  · exact absurd h hap

theorem Fix.look {S : Nat → Prop} {i p t : Nat} {o : Oper} {x : AV} (hcl : Closed ops S) (hni : ¬ S i) (ho : ops[i]? = some o) (hrd : ∀ e ∈ o.after, Region.binds .any e = true → S e.on)
    (hp1 : L[p]? = some i) (ht : t ∈ o.looksAt ops) (hx : (Fp p).get t = some x) : Cur ops L vp (Fp 0) S t x := by
  have hlt := (List.getElem?_eq_some_iff.1 hp1).1
  have key : ∀ {p' i' : Nat} {o' : Oper}, L[p']? = some i' → ops[i']? = some o' → o'.dst = some t → (p' < p → S i') ∧ (S i' → p' < p) := by
    intro p' i' o' h1 h2 h3
    by_cases e : i = i'
    · subst e
      have := fx.ord.inj p p' i hp1 h1
      subst this
      exact ⟨fun h => by omega, fun h => absurd h hni⟩
    · rcases fx.sides hcl hni ho hrd hp1 h1 h2 e (fun h => (Oper.apart_spec h).2.2 t h3 ht) with ⟨h, h'⟩ | ⟨h, h'⟩
      · exact ⟨fun _ => h, fun _ => h'⟩
      · exact ⟨fun h'' => by omega, fun h'' => absurd h'' h⟩
  rcases fx.ref.slots (Nat.le_of_lt hlt) hx with ⟨p1, i1, o1, a1, a2, a3, a4, a5, _, _, a7⟩ | ⟨a1, a2⟩
  · refine .inl ⟨p1, i1, o1, a2, a3, (key a2 a3 a4).1 a1, a4, a5, fun p2 i2 o2 b1 b2 b3 b4 b5 => ?_⟩
    exact a7 p2 i2 o2 b1 ((key b2 b3 b5).2 b4) b2 b3 b5
  · exact .inr ⟨fun p2 i2 o2 b2 b3 b4 b5 => a1 p2 i2 o2 ((key b2 b3 b5).2 b4) b2 b3 b5, a2⟩

theorem Fix.cur_put {S : Nat → Prop} {i p : Nat} {o : Oper} {a : Act} {v : Value} {μ ν : Places} (hcl : Closed ops S) (hni : ¬ S i) (ho : ops[i]? = some o) (hrd : ∀ e ∈ o.after, Region.binds .any e = true → S e.on)
    (hp1 : L[p]? = some i) (hs : ∀ t x, Cur ops L vp (Fp 0) S t x → VRel μ x (a.tmps.getD t undef)) (hle : Le μ ν) (hv : VRel ν (vp p) v) (hsz : N ≤ a.tmps.size) :
    ∀ t x, Cur ops L vp (Fp 0) (plus S i) t x → VRel ν x ((a.put o.dst v).tmps.getD t undef) := by
  intro t x hc
  have posn : ∀ {p' : Nat}, L[p']? = some i → p' = p := fun h => fx.ord.inj _ _ i h hp1
  by_cases hd : o.dst = some t
  · have htN : t < N := by
      obtain ⟨o1, h1, _, h3⟩ := fx.ref.run p i hp1
      rw [ho] at h1; cases h1
      unfold putA at h3
      rw [hd] at h3
      dsimp only at h3
      split at h3
      · rename_i hb; exact Nat.le_of_ble_eq_true hb
      · cases h3
    have hval : (a.put o.dst v).tmps.getD t undef = v := by
      rw [hd]
      simp [Act.put, Nat.lt_of_lt_of_le htN hsz]
    rw [hval]
    rcases hc with ⟨p1, i1, o1, a1, a2, a3, a4, a5, a6⟩ | ⟨a1, _⟩
    · have : p1 = p := by
        rcases a3 with a3 | a3
        · by_cases e : i = i1
          · subst e; exact absurd a3 hni
          · rcases fx.sides hcl hni ho hrd hp1 a1 a2 e (fun h => (Oper.apart_spec h).2.1 t hd a4) with ⟨_, h⟩ | ⟨h, _⟩
            · exact absurd hd (a6 p i o h hp1 ho (.inr rfl))
            · exact absurd a3 h
        · subst a3; exact posn a1
      subst this
      rw [← a5]; exact hv
    · exact absurd hd (a1 p i o hp1 ho (.inr rfl))
  · have hval : (a.put o.dst v).tmps.getD t undef = a.tmps.getD t undef := by
      cases hdd : o.dst with
      | none => rfl
      | some u =>
        have hne : u ≠ t := fun e => hd (by rw [hdd, e])
        simp [Act.put, Array.getElem?_setIfInBounds_ne hne]
    rw [hval]
    refine (hs t x ?_).mono hle
    have notme : ∀ {p1 i1 : Nat} {o1 : Oper}, L[p1]? = some i1 → ops[i1]? = some o1 → o1.dst = some t → plus S i i1 → S i1 := by
      intro p1 i1 o1 h1 h2 h3 h4
      rcases h4 with h4 | h4
      · exact h4
      · subst h4; rw [ho] at h2; cases h2; exact absurd h3 hd
    rcases hc with ⟨p1, i1, o1, a1, a2, a3, a4, a5, a6⟩ | ⟨a1, a2⟩
    · exact .inl ⟨p1, i1, o1, a1, a2, notme a1 a2 a4 a3, a4, a5, fun p2 i2 o2 b1 b2 b3 b4 => a6 p2 i2 o2 b1 b2 b3 (.inl b4)⟩
    · exact .inr ⟨fun p2 i2 o2 b2 b3 b4 => a1 p2 i2 o2 b2 b3 (.inl b4), a2⟩

/-- The main part takes in those that lie next. -/
theorem Inv.absorb {μ₀ μ : Places} {w₀ w : World} {a : Act} {S : Nat → Prop} {q : Nat} (inv : Inv G N ops L Fp hp vp gp μ₀ w₀ S q μ a w) : ∀ {r : Nat}, q ≤ r → r ≤ L.length →
    (∀ p i : Nat, q ≤ p → p < r → L[p]? = some i → S i) →
    RelH μ (hp r) w ∧ (∀ p i : Nat, r ≤ p → L[p]? = some i → S i → Apart μ (hp r) (part hp gp p)) ∧ AdvM (hp L.length).next μ₀ (hp 0) w₀ μ (hp r) w
  | 0, h1, _, _ => by
    have : q = 0 := by omega
    subst this
    exact ⟨inv.rel, fun p i h2 h3 h4 => (inv.parts p i h2 h3 h4).2, inv.adv⟩
  | r + 1, h1, h2, h3 => by
    by_cases e : q = r + 1
    · subst e
      exact ⟨inv.rel, fun p i h2 h3 h4 => (inv.parts p i h2 h3 h4).2, inv.adv⟩
    · obtain ⟨k1, k2, k3⟩ := Inv.absorb inv (r := r) (by omega) (by omega) (fun p i b1 b2 b3 => h3 p i b1 (by omega) b3)
      have hLr : L[r]? = some (L[r]'(by omega)) := List.getElem?_eq_getElem (by omega : r < L.length)
      have hS := h3 r _ (by omega) (by omega) hLr
      obtain ⟨o, ho⟩ := fx.ord.known r _ hLr
      have hne : ¬ isEff o := fun he => inv.high r _ o (by omega) hLr ho he hS
      obtain ⟨g1, g2⟩ := fx.side r _ o hLr ho hne
      rw [g1]
      rcases g2 with ⟨hg, _⟩ | ⟨hg, _⟩
      · have hpr := inv.parts r _ (by omega) hLr hS
        refine ⟨RelH.join hg k1 hpr.1 (k2 r _ (Nat.le_refl _) hLr hS), fun p i b1 b2 b3 => ?_, AdvM.join hg k3 (inv.new r _ (by omega) hLr hS hg)⟩
        exact Apart.join hg (k2 p i (by omega) b2 b3) (inv.two r p _ i (by omega) (by omega) (by omega) hLr b2 hS b3)
      · rw [hg]
        exact ⟨k1, fun p i b1 b2 b3 => k2 p i (by omega) b2 b3, k3⟩

theorem Fix.next_le {p q : Nat} (h : p ≤ q) (hq : q ≤ L.length) : (hp p).next ≤ (hp q).next := fx.ref.next_le fx.nx h hq

/-- One operation, whichever is drawn. -/
theorem Inv.step {μ₀ μ : Places} {w₀ w : World} {a : Act} {S : Nat → Prop} {q i : Nat} {o : Oper} (inv : Inv G N ops L Fp hp vp gp μ₀ w₀ S q μ a w) (hcl : Closed ops S) (hni : ¬ S i)
    (ho : ops[i]? = some o) (hrd : ∀ e ∈ o.after, Region.binds .any e = true → S e.on) {Q : Exit → Act → World → Prop} {K : Act → World → Prop}
    (hK : ∀ v μ' q' w', Inv G N ops L Fp hp vp gp μ₀ w₀ (plus S i) q' μ' (a.put o.dst v) w' → K (a.put o.dst v) w') :
    if Region.wanted o (yielded ops a.tmps) then o.wp P a w K Q ∨ (o.asks P a w ∧ LetsOut Q) else K (a.put o.dst undef) w := by
  obtain ⟨p, hp1⟩ := fx.all i (Array.getElem?_eq_some_iff.1 ho).1
  have hlt := (List.getElem?_eq_some_iff.1 hp1).1
  have hqp : q ≤ p := by
    rcases Nat.lt_or_ge p q with h | h
    · exact absurd (inv.low p i h hp1) hni
    · exact h
  have hFR : FRel μ ((Fp p).only (o.looksAt ops)) a.tmps := by
    intro t x hx
    rw [Fr.get_only] at hx
    split at hx
    · rename_i ht
      exact inv.slots t x (fx.look hcl hni ho hrd hp1 ht hx)
    · cases hx
  have hmid : ∀ {H : AH}, RelH μ H w → Mid G N μ ((Fp p).only (o.looksAt ops)) H a w := fun hr => ⟨hr, hFR, inv.gl, inv.sz, inv.df⟩
  obtain ⟨o1, e1, hdo, hput⟩ := fx.ref.run p i hp1
  rw [ho] at e1; cases e1
  have nxp := fx.next_le (Nat.le_succ p) (by omega : p + 1 ≤ L.length)
  have nxend := fx.next_le (by omega : p + 1 ≤ L.length) (Nat.le_refl _)
  have hfree := inv.free p i hqp hp1 hni
  have posn : ∀ {p' : Nat}, L[p']? = some i → p' = p := fun h => fx.ord.inj _ _ i h hp1
  have psz : ∀ v : Value, N ≤ (a.put o.dst v).tmps.size := fun v => by
    cases o.dst with
    | none => exact inv.sz
    | some t => simpa [Act.put] using inv.sz
  have pdf : ∀ v : Value, (a.put o.dst v).defers = [] := fun v => by
    cases o.dst with
    | none => exact inv.df
    | some t => exact inv.df
  have elsewhere : ∀ {p' b : Nat}, p' ≠ p → p' < L.length → (hp p').next ≤ b → b < (hp (p' + 1)).next → b < (hp p).next ∨ (hp (p + 1)).next ≤ b := by
    intro p' b h1 h2 h3 h4
    rcases Nat.lt_or_ge p' p with h | h
    · have := fx.next_le (by omega : p' + 1 ≤ p) (by omega)
      exact .inl (by omega)
    · have := fx.next_le (by omega : p + 1 ≤ p') (by omega)
      exact .inr (by omega)
  by_cases he : isEff o
  · -- an effect: all that lie before it have been carried out
    have hbefore : ∀ p' j : Nat, p' < p → L[p']? = some j → S j := by
      intro p' j h1 h2
      have hb := fx.ord.eff p p' i j o hp1 ho he h1 h2
      rcases fx.mask i (plus S i) (closed_plus hcl ho hrd) (.inr rfl) j hb with h | h
      · exact h
      · subst h; have := posn h2; omega
    obtain ⟨k1, k2, k3⟩ := Inv.absorb fx inv hqp (Nat.le_of_lt hlt) (fun p' j _ h2 h3 => hbefore p' j h2 h3)
    refine doOp_wp fx.ck (hmid k1) (by rw [doOp_only]; exact hdo) hfree fun ν v w' hv hrel hA => ?_
    refine hK v ν (p + 1) w' ⟨by omega, fun p' j h1 h2 => ?_, fun p' j o' h1 h2 h3 h4 h5 => ?_, .inr ⟨i, o, hp1, ho, he⟩, hrel, fun p' j h1 h2 h3 => ?_, fun p' p'' j j' h1 h2 h3 h4 h5 h6 h7 => ?_,
      fun p' j h1 h2 h3 h4 => ?_, fun p' j h1 h2 h3 b b1 b2 => ?_, fx.cur_put hcl hni ho hrd hp1 inv.slots hA.le hv inv.sz, inv.rel0, k3.trans hA inv.rel0 nxend, inv.gl.adv hA, psz v, pdf v⟩
    · by_cases e : p' = p
      · subst e; rw [hp1] at h2; cases h2; exact .inr rfl
      · exact .inl (hbefore p' j (by omega) h2)
    · rcases h5 with h5 | h5
      · exact inv.high p' j o' (by omega) h2 h3 h4 h5
      · subst h5; have := posn h2; omega
    · have hS : S j := by
        rcases h3 with h3 | h3
        · exact h3
        · subst h3; have := posn h2; omega
      have h4 := (inv.parts p' j (by omega) h2 hS).1
      have h5 := k2 p' j (by omega) h2 hS
      exact ⟨RelH.rest k1 h4 h5 hA, Apart.rest k1 h4 h5 hA⟩
    · have hS : S j := h6.resolve_right fun e => by subst e; have := posn h4; omega
      have hS' : S j' := h7.resolve_right fun e => by subst e; have := posn h5; omega
      exact Apart.keep (inv.parts p' j (by omega) h4 hS).1 (inv.parts p'' j' (by omega) h5 hS').1 (inv.two p' p'' j j' (by omega) (by omega) h3 h4 h5 hS hS') hA.le
    · have hS : S j := h3.resolve_right fun e => by subst e; have := posn h2; omega
      obtain ⟨M, hM, hM'⟩ := inv.new p' j (by omega) h2 hS h4
      exact ⟨M, hA.le _ _ hM, hM'⟩
    · have := fx.next_le h1 (Nat.le_of_lt (List.getElem?_eq_some_iff.1 h2).1)
      rw [hA.agree b (.inr (by omega))]
      exact inv.free p' j (by omega) h2 (fun h => h3 (.inl h)) b b1 b2
  · -- no effect
    have hsame : ∀ {ν : Places} {v : Value} {w' : World}, VRel ν (vp p) v → GRel ν G → Le μ ν → RelH ν (hp q) w' → (RelH ν (part hp gp p) w' ∧ Apart ν (hp q) (part hp gp p)) →
        (∀ p' j : Nat, q ≤ p' → p' ≠ p → L[p']? = some j → S j → RelH ν (part hp gp p') w' ∧ Apart ν (hp q) (part hp gp p') ∧ Apart ν (part hp gp p) (part hp gp p')) →
        (IsNew (gp p) → ∃ K, ν (hp p).next = some K ∧ w₀.heap.size ≤ K.blk) →
        (∀ b, (b < (hp p).next ∨ (hp (p + 1)).next ≤ b) → (hp q).next ≤ b → ν b = μ b) → AdvM (hp L.length).next μ₀ (hp 0) w₀ ν (hp q) w' → K (a.put o.dst v) w' := by
      intro ν v w' hv hgl hle h1 h2 h3 h4 h5 h6
      refine hK v ν q w' ⟨inv.le, fun p' j b1 b2 => .inl (inv.low p' j b1 b2), fun p' j o' b1 b2 b3 b4 b5 => ?_, inv.front, h1, fun p' j b1 b2 b3 => ?_, fun p' p'' j j' b1 b2 b3 b4 b5 b6 b7 => ?_,
        fun p' j b1 b2 b3 b4 => ?_, fun p' j b1 b2 b3 b b4 b5 => ?_, fx.cur_put hcl hni ho hrd hp1 inv.slots hle hv inv.sz, inv.rel0, h6, hgl, psz v, pdf v⟩
      · rcases b5 with b5 | b5
        · exact inv.high p' j o' b1 b2 b3 b4 b5
        · subst b5; rw [ho] at b3; cases b3; exact he b4
      · by_cases e : p' = p
        · subst e; exact h2
        · have hS : S j := b3.resolve_right fun e' => by subst e'; exact e (posn b2)
          have := h3 p' j b1 e b2 hS
          exact ⟨this.1, this.2.1⟩
      · by_cases e : p' = p
        · subst e
          have hS : S j' := b7.resolve_right fun e' => by subst e'; exact b3 (posn b5).symm
          exact (h3 p'' j' b2 (fun e => b3 e.symm) b5 hS).2.2
        · have hS : S j := b6.resolve_right fun e' => by subst e'; exact e (posn b4)
          by_cases e2 : p'' = p
          · subst e2
            exact (h3 p' j b1 e b4 hS).2.2.symm
          · have hS' : S j' := b7.resolve_right fun e' => by subst e'; exact e2 (posn b5)
            exact Apart.keep (inv.parts p' j b1 b4 hS).1 (inv.parts p'' j' b2 b5 hS').1 (inv.two p' p'' j j' b1 b2 b3 b4 b5 hS hS') hle
      · by_cases e : p' = p
        · subst e; exact h4 b4
        · have hS : S j := b3.resolve_right fun e' => by subst e'; exact e (posn b2)
          obtain ⟨M, hM, hM'⟩ := inv.new p' j b1 b2 hS b4
          exact ⟨M, hle _ _ hM, hM'⟩
      · have hne : p' ≠ p := fun e => b3 (.inr (by subst e; rw [hp1] at b2; cases b2; rfl))
        have hlt' := (List.getElem?_eq_some_iff.1 b2).1
        have := fx.next_le b1 (Nat.le_of_lt hlt')
        rw [h5 b (elsewhere hne hlt' b4 b5) (by omega)]
        exact inv.free p' j b1 b2 (fun h => b3 (.inl h)) b b4 b5
    obtain ⟨g1, g2⟩ := fx.side p i o hp1 ho he
    have onNone : (∀ call, doOp P G call ops.toList o (Fp p) (AH.none (hp p).next) = some (vp p, part hp gp p)) → ((part hp gp p).next = (hp (p + 1)).next) →
        if Region.wanted o (yielded ops a.tmps) then o.wp P a w K Q ∨ (o.asks P a w ∧ LetsOut Q) else K (a.put o.dst undef) w := by
      intro hd hnx
      have hpos : 0 < (hp p).next := Nat.lt_of_lt_of_le fx.pos (fx.next_le (Nat.zero_le _) (Nat.le_of_lt hlt))
      have r0 : RelH μ (AH.none (hp p).next) w := RelH.none hpos
      refine doOp_wp fx.ck (hmid r0) (by rw [doOp_only]; exact hd _) (fun b b1 b2 => hfree b b1 (by rw [hnx] at b2; exact b2)) fun ν v w' hv hrel hA => ?_
      have hq1 := RelH.rest r0 inv.rel Apart.none hA
      have hq2 := Apart.rest r0 inv.rel Apart.none hA
      refine hsame hv (inv.gl.adv hA) hA.le hq1 ⟨hrel, hq2.symm⟩ (fun p' j b1 b2 b3 b4 => ?_) (fun hg => ?_) (fun b b1 _ => ?_) (inv.adv.side hA inv.rel (fx.next_le (Nat.zero_le _) (Nat.le_of_lt hlt)) (by rw [hnx]; exact nxend))
      · have hh := inv.parts p' j b1 b3 b4
        exact ⟨RelH.rest r0 hh.1 Apart.none hA, Apart.keep inv.rel hh.1 hh.2 hA.le, Apart.rest r0 hh.1 Apart.none hA⟩
      · obtain ⟨Bn, hat, _⟩ := hg.at
        have hb : (part hp gp p).at (hp p).next = some (Bn (hp p).next) := by unfold part; rw [hat]; simp [AH.none]
        rcases hA.live _ _ hb with ⟨B0, hB0, _⟩ | ⟨_, _, M, hM, hor⟩
        · exact (none_at hB0).elim
        · rcases hor with hs | ⟨c, C, _, hC, _⟩
          · exact ⟨M, hM, Nat.le_trans inv.adv.size_le hs⟩
          · exact (none_at hC).elim
      · exact hA.agree b (by show b < (hp p).next ∨ _; rw [hnx]; exact b1)
    rcases g2 with ⟨hg, hall⟩ | ⟨hg, hload | hall⟩
    · refine onNone (fun call => hall (AH.none (hp p).next) rfl call) ?_
      unfold part
      rw [hg.next, g1, hg.next]; rfl
    · -- a load: at the memory behind the last effect
      have hfr : q = 0 ∨ ∃ (j : Nat) (o' : Oper), L[q - 1]? = some j ∧ ops[j]? = some o' ∧ isEff o' ∧ bit (B.getD j 0) i = false := by
        rcases inv.front with h | ⟨j, o', h1, h2, h3⟩
        · exact .inl h
        · by_cases hq0 : q = 0
          · exact .inl hq0
          · refine .inr ⟨j, o', h1, h2, h3, ?_⟩
            cases hb : bit (B.getD j 0) i with
            | false => rfl
            | true => exact absurd (fx.mask j S hcl (inv.low (q - 1) j (by omega) h1) i hb) hni
      have hno : ∀ (p' j : Nat) (o' : Oper), q ≤ p' → L[p']? = some j → ops[j]? = some o' → isEff o' → bit (B.getD i 0) j = false := by
        intro p' j o' h1 h2 h3 h4
        cases hb : bit (B.getD i 0) j with
        | false => rfl
        | true =>
          rcases fx.mask i (plus S i) (closed_plus hcl ho hrd) (.inr rfl) j hb with h | h
          · exact absurd h (inv.high p' j o' h1 h2 h3 h4)
          · subst h; rw [ho] at h3; cases h3; exact absurd h4 he
      have hd := fx.loads p i q o hp1 ho hload.1 inv.le hfr hno
      refine doOp_wp fx.ck (hmid inv.rel) (by rw [doOp_only]; exact hd call) (fun b b1 b2 => by omega) fun ν v w' hv hrel hA => ?_
      have hpos : 0 < (hp p).next := Nat.lt_of_lt_of_le fx.pos (fx.next_le (Nat.zero_le _) (Nat.le_of_lt hlt))
      have hpart : part hp gp p = AH.none (hp p).next := by unfold part; rw [hg]; rfl
      have nxq := fx.next_le inv.le (Nat.le_refl _)
      refine hsame hv (inv.gl.adv hA) hA.le hrel ⟨by rw [hpart]; exact RelH.none hpos, by rw [hpart]; exact Apart.none.symm⟩ (fun p' j b1 b2 b3 b4 => ?_) (fun hg' => ?_) (fun b _ b2 => hA.agree b (.inr b2)) (inv.adv.trans hA inv.rel0 nxq)
      · have hh := inv.parts p' j b1 b3 b4
        exact ⟨RelH.rest inv.rel hh.1 hh.2 hA, Apart.rest inv.rel hh.1 hh.2 hA, by rw [hpart]; exact Apart.none⟩
      · have h1 := hg'.next (hp p)
        rw [hg] at h1
        have : (hp p).next = (hp p).next + 1 := h1
        omega
    · refine onNone (fun call => ?_) ?_
      · rw [hall]
        unfold part; rw [hg]; rfl
      · unfold part
        rw [hg, g1, hg]; rfl

/-- All orders. -/
theorem Inv.any {μ₀ : Places} {w₀ : World} {Q : Exit → Act → World → Prop}
    (hQ : ∀ μ a w q, Inv G N ops L Fp hp vp gp μ₀ w₀ (fun i => i < ops.size) q μ a w → Q .normal a w) :
    ∀ (fuel : Nat) (listed : Array Bool) (U : List Nat) (μ : Places) (a : Act) (w : World) (q : Nat), listed.size = ops.size → U.length = fuel → U.Nodup → (∀ i, i ∈ U ↔ (i < ops.size ∧ listed.getD i true = false)) →
      Closed ops (fun i => i < ops.size ∧ i ∉ U) →
      Inv G N ops L Fp hp vp gp μ₀ w₀ (fun i => i < ops.size ∧ i ∉ U) q μ a w → wpAny P .any ops Q fuel listed a w := by
  have least : ∀ (listed : Array Bool) (U : List Nat), listed.size = ops.size → (∀ i, i ∈ U ↔ (i < ops.size ∧ listed.getD i true = false)) → Region.ready .any ops listed = [] → U = [] := by
    intro listed U hsz hU hr
    have claim : ∀ n p i : Nat, p < n → L[p]? = some i → i ∉ U := by
      intro n
      induction n with
      | zero => intro p i h; omega
      | succ n ih =>
        intro p i hlt hi hm
        have hm' := (hU i).1 hm
        obtain ⟨o, ho⟩ := fx.ord.known p i hi
        have : i ∈ Region.ready .any ops listed := by
          rw [mem_ready]
          refine ⟨hm'.2, o, ho, fun e he hb => ?_⟩
          obtain ⟨q, hq, hq'⟩ := fx.ord.edges p i o hi ho e he hb
          have hnot := ih q e.on (by omega) hq'
          obtain ⟨o', ho'⟩ := fx.ord.known q e.on hq'
          have hlt' := (Array.getElem?_eq_some_iff.1 ho').1
          have hl : ¬ (listed.getD e.on true = false) := fun h => hnot ((hU e.on).2 ⟨hlt', h⟩)
          have hls : e.on < listed.size := by omega
          rw [Array.getD_eq_getD_getElem?, Array.getElem?_eq_getElem hls] at hl ⊢
          simpa using hl
        rw [hr] at this; cases this
    cases U with
    | nil => rfl
    | cons i r =>
      have hi := (hU i).1 (by simp)
      obtain ⟨p, hp⟩ := fx.all i hi.1
      exact absurd (List.mem_cons_self) (claim (p + 1) p i (by omega) hp)
  have done : ∀ (listed : Array Bool) (U : List Nat) (μ : Places) (a : Act) (w : World) (q : Nat), listed.size = ops.size → (∀ i, i ∈ U ↔ (i < ops.size ∧ listed.getD i true = false)) →
      Inv G N ops L Fp hp vp gp μ₀ w₀ (fun i => i < ops.size ∧ i ∉ U) q μ a w → Region.ready .any ops listed = [] → Q .normal a w := by
    intro listed U μ a w q hsz hU inv hr
    have := least listed U hsz hU hr
    subst this
    have e : (fun i => i < ops.size ∧ i ∉ ([] : List Nat)) = fun i => i < ops.size := by funext i; simp
    rw [e] at inv
    exact hQ μ a w q inv
  intro fuel
  induction fuel with
  | zero =>
    intro listed U μ a w q hsz hl hnd hU hcl inv
    have hUn : U = [] := List.length_eq_zero_iff.1 hl
    have hr : Region.ready .any ops listed = [] := by
      apply List.eq_nil_iff_forall_not_mem.2
      intro i hi
      obtain ⟨h1, o, ho, _⟩ := mem_ready.1 hi
      have := (hU i).2 ⟨(Array.getElem?_eq_some_iff.1 ho).1, h1⟩
      rw [hUn] at this; cases this
    exact ⟨hr, done listed U μ a w q hsz hU inv hr⟩
  | succ fuel ih =>
    intro listed U μ a w q hsz hl hnd hU hcl inv
    refine ⟨done listed U μ a w q hsz hU inv, fun i hi => ?_⟩
    obtain ⟨h1, o, ho, hedge⟩ := mem_ready.1 hi
    have hlt := (Array.getElem?_eq_some_iff.1 ho).1
    have hiU : i ∈ U := (hU i).2 ⟨hlt, h1⟩
    unfold wpOp
    rw [ho]
    dsimp only
    have hrd : ∀ e ∈ o.after, Region.binds .any e = true → (e.on < ops.size ∧ e.on ∉ U) := by
      intro e he hb
      obtain ⟨p, hp⟩ := fx.all i hlt
      obtain ⟨q', hq, hq'⟩ := fx.ord.edges p i o hp ho e he hb
      obtain ⟨o', ho'⟩ := fx.ord.known q' e.on hq'
      have hlt' := (Array.getElem?_eq_some_iff.1 ho').1
      refine ⟨hlt', fun hm => ?_⟩
      have h2 := ((hU e.on).1 hm).2
      have h3 := hedge e he hb
      have hls : e.on < listed.size := by omega
      rw [Array.getD_eq_getD_getElem?, Array.getElem?_eq_getElem hls] at h2 h3
      simp at h2 h3
      rw [h2] at h3; cases h3
    have hni : ¬ (i < ops.size ∧ i ∉ U) := fun h => h.2 hiU
    have hplus : plus (fun i => i < ops.size ∧ i ∉ U) i = fun j => j < ops.size ∧ j ∉ U.erase i := by
      funext j
      unfold plus
      apply propext
      rw [hnd.mem_erase_iff]
      constructor
      · rintro (⟨h2, h3⟩ | h2)
        · exact ⟨h2, fun h => h3 h.2⟩
        · subst h2; exact ⟨hlt, fun h => h.1 rfl⟩
      · rintro ⟨h2, h3⟩
        by_cases e : j = i
        · exact .inr e
        · exact .inl ⟨h2, fun h => h3 ⟨e, h⟩⟩
    refine Inv.step fx inv hcl hni ho hrd fun v μ' q' w' inv' => ?_
    have hcl' := closed_plus hcl ho hrd
    rw [hplus] at inv' hcl'
    refine ih (listed.setIfInBounds i true) (U.erase i) μ' _ w' q' (by simpa using hsz) (by rw [List.length_erase_of_mem hiU]; omega) (hnd.erase i) (fun j => ?_) hcl' inv'
    rw [hnd.mem_erase_iff, hU j]
    by_cases e : i = j
    · subst e
      have hls : i < listed.size := by omega
      simp [hls]
    · rw [getD_set_ne true e]
      constructor
      · rintro ⟨_, h⟩; exact h
      · intro h; exact ⟨fun e' => e e'.symm, h⟩
end

theorem snoc_wrote {P : Program} {G N : Nat} {call : CallF} {ops : Array Oper} {L : List Nat} {Fp : Nat → Fr} {hp : Nat → AH} {vp : Nat → AV} (hR : Ref P G N call ops L Fp hp vp) :
    ∀ {p : Nat}, p ≤ L.length → (Fp 0).loc = [] → Wrote ops.toList (Fp 0) (Fp p)
  | 0, _, h => ⟨rfl, fun t x hx => by rw [h] at hx; cases hx⟩
  | p + 1, hle, h => by
    have ih := snoc_wrote hR (p := p) (by omega) h
    obtain ⟨o, ho, _, h3⟩ := hR.run p _ (List.getElem?_eq_getElem (by omega : p < L.length))
    exact ih.put (by simpa using Array.mem_of_getElem? ho) h3

theorem draw_ok {P : Program} {G : Nat} : DrawOk P G := by
  intro call hc hn N ops F F' h h' hloc hr μ₀ a₀ w₀ Q hmid hfresh hQ
  unfold runDraw at hr
  split at hr <;> try (cases hr; done)
  rename_i hreg
  split at hr <;> try (cases hr; done)
  rename_i F1 h1 rs hrun
  split at hr <;> try (cases hr; done)
  rename_i hloads
  cases hr
  unfold regionOk at hreg
  split at hreg <;> try (cases hreg; done)
  rename_i hord hpairs hsel
  obtain ⟨Fp, hp, vp, hR, e1, e2, e3, e4, e5⟩ := runCanon_ref hrun
  obtain ⟨ord, all⟩ := orderOk_spec hord
  rw [List.append_nil] at e5
  have hB : (masks ops.toList []).getD ops.size 0 = 0 := by
    have : ∀ (l : List Oper) (acc : List Nat), (masks l acc).length = acc.length + l.length := by
      intro l
      induction l with
      | nil => intro acc; simp [masks]
      | cons o r ih => intro acc; unfold masks; rw [ih]; simp; omega
    rw [List.getD_eq_getElem?_getD, List.getElem?_eq_none (by rw [this]; simp)]; rfl
  have hside : ∀ p : Nat, ∃ g : AH → AH, ∀ (i : Nat) (o : Oper), (canonOf ops.toList)[p]? = some i → ops[i]? = some o → ¬ isEff o → SideK P G ops o (Fp p) (hp p) (vp p) (hp (p + 1)) g := by
    intro p
    by_cases hx : ∃ (i : Nat) (o : Oper), (canonOf ops.toList)[p]? = some i ∧ ops[i]? = some o ∧ ¬ isEff o
    · obtain ⟨i, o, hi, ho, he⟩ := hx
      obtain ⟨o1, ho1, hd, _⟩ := hR.run p i hi
      rw [ho] at ho1; cases ho1
      obtain ⟨g, hg⟩ := doOp_side he hd
      refine ⟨g, fun i' o' hi' ho' _ => ?_⟩
      rw [hi] at hi'; cases hi'
      rw [ho] at ho'; cases ho'
      exact hg
    · exact ⟨id, fun i o hi ho he => absurd ⟨i, o, hi, ho, he⟩ hx⟩
  obtain ⟨gp, hgp⟩ := Classical.axiomOfChoice hside
  have fx : Fix P G N call ops (masks ops.toList []) (canonOf ops.toList) Fp hp vp gp := by
    refine ⟨hR, ord, all, fun i => masks_ok i, fun i j x y hi hj hne => pairsOk_spec hpairs hi hj hne, fun p i o hi ho he => hgp p i o hi ho he, fun p i q o hi ho hk hq hfr hno => ?_, hn, hc, by rw [e2]; exact hmid.rel.pos⟩
    have hlt := (List.getElem?_eq_some_iff.1 hi).1
    have hmem := mem_ransOf (L := canonOf ops.toList) (Fp := Fp) (hp := hp) (vp := vp) hlt
    have hgd : (canonOf ops.toList).getD p 0 = i := by rw [List.getD_eq_getElem?_getD, hi]; rfl
    rw [hgd, ← e5] at hmem
    have hl := loadsOk_mem hloads _ hmem o ho hk
    rw [e5, ← e2] at hl
    exact load_snap (p := p) hR hB hk hq (Nat.le_refl _) hl hfr hno
  refine Inv.any fx (μ₀ := μ₀) (w₀ := w₀) (fun μ a w q inv => ?_) ops.size _ (List.range ops.size) μ₀ a₀ w₀ 0 (by simp) (by simp) List.nodup_range (fun i => ?_) (fun i o ho hS => ?_) ?_
  · have hall : ∀ p i : Nat, (canonOf ops.toList)[p]? = some i → i < ops.size := fun p i hi => by
      obtain ⟨o, ho⟩ := ord.known p i hi
      exact (Array.getElem?_eq_some_iff.1 ho).1
    obtain ⟨k1, _, k3⟩ := Inv.absorb fx inv inv.le (Nat.le_refl _) (fun p i _ _ hi => hall p i hi)
    refine hQ a w μ ⟨by rw [← e4]; exact k1, fun t x hx => ?_, inv.gl, inv.sz, inv.df⟩ ?_ ?_
    · rw [← e3] at hx
      refine inv.slots t x ?_
      rcases hR.slots (Nat.le_refl _) hx with ⟨p1, i, o, a1, a2, a3, a4, a5, _, _, a7⟩ | ⟨a1, a2⟩
      · exact .inl ⟨p1, i, o, a2, a3, hall _ _ a2, a4, a5, fun p2 i2 o2 b1 b2 b3 _ => a7 p2 i2 o2 b1 (List.getElem?_eq_some_iff.1 b2).1 b2 b3⟩
      · exact .inr ⟨fun p2 i2 o2 b2 b3 _ => a1 p2 i2 o2 (List.getElem?_eq_some_iff.1 b2).1 b2 b3, a2⟩
    · rw [← e1, ← e3]
      exact snoc_wrote hR (Nat.le_refl _) (by rw [e1]; exact hloc)
    · rw [← e4, ← e2]; exact k3.toAdv
  · rw [List.mem_range]
    constructor
    · intro h; exact ⟨h, by simp [h]⟩
    · rintro ⟨h, _⟩; exact h
  · exact absurd (List.mem_range.2 hS.1) hS.2
  · have hno : ∀ i, ¬ (i < ops.size ∧ i ∉ List.range ops.size) := fun i h => h.2 (List.mem_range.2 h.1)
    refine ⟨Nat.zero_le _, fun p i h => by omega, fun p i o _ _ _ _ h => hno i h, .inl rfl, by rw [e2]; exact hmid.rel, fun p i _ _ h => absurd h (hno i), fun p p' i i' _ _ _ _ _ h => absurd h (hno i),
      fun p i _ _ h => absurd h (hno i), fun p i _ hi _ b b1 b2 => ?_, fun t x hx => ?_, by rw [e2]; exact hmid.rel, AdvM.refl _ _ _ _, hmid.gl, hmid.sz, hmid.df⟩
    · have hlt := (List.getElem?_eq_some_iff.1 hi).1
      have n1 := fx.next_le (Nat.zero_le p) (Nat.le_of_lt hlt)
      have n2 := fx.next_le (by omega : p + 1 ≤ (canonOf ops.toList).length) (Nat.le_refl _)
      rw [e2] at n1
      rw [e4] at n2
      exact hfresh b (by omega) (by omega)
    · rcases hx with ⟨p, i, o, _, _, h3, _⟩ | ⟨_, h2⟩
      · exact absurd h3 (hno i)
      · rw [e1] at h2
        exact hmid.fr t x h2
end
end Go.Proofs.Ytllldiokcnheiaa.Ab
