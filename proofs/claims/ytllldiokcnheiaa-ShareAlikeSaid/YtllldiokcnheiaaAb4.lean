/- Code and calls on plain values follow the model's, where regions that draw their order do so: for every program without the one name that a call treats apart. -/
import Derived.Test.YtllldiokcnheiaaAb3
import Derived.Tactics
import Derived.Orders
import Derived.LoopN

namespace Go.Proofs.Ytllldiokcnheiaa.Ab
noncomputable section
section
variable {P : Program} {h h' : AH}

theorem storeL_next {b off : Nat} {vs : List AV} (hs : h.storeL b off vs = some h') : h'.next = h.next := by
  unfold AH.storeL at hs
  repeat' (split at hs <;> try (cases hs; done))
  cases hs; rfl

theorem grow_next {b off n : Nat} {cs : List AV} (hs : h.grow b off n cs = some h') : h.next ≤ h'.next := by
  unfold AH.grow at hs
  repeat' (split at hs <;> try (cases hs; done))
  all_goals (cases hs; exact Nat.le_succ _)

theorem appendA_next {s t : TypeId} {x y a : AV} (hs : appendA P s t x y h = some (a, h')) : h.next ≤ h'.next := by
  unfold appendA at hs
  repeat' (split at hs <;> try (cases hs; done))
  all_goals (cases hs; first | exact Nat.le_refl _ | exact Nat.le_succ _ | exact Nat.le_of_eq (storeL_next ‹_›).symm | exact grow_next ‹_›)

theorem copyA_next {t : TypeId} {x y a : AV} (hs : copyA P t x y h = some (a, h')) : h.next ≤ h'.next := by
  unfold copyA at hs
  repeat' (split at hs <;> try (cases hs; done))
  all_goals (cases hs; first | exact Nat.le_refl _ | exact Nat.le_succ _ | exact Nat.le_of_eq (storeL_next ‹_›).symm | exact grow_next ‹_›)

theorem clearA_next {t : TypeId} {x a : AV} (hs : clearA P t x h = some (a, h')) : h.next ≤ h'.next := by
  unfold clearA at hs
  repeat' (split at hs <;> try (cases hs; done))
  all_goals (cases hs; first | exact Nat.le_refl _ | exact Nat.le_succ _ | exact Nat.le_of_eq (storeL_next ‹_›).symm | exact grow_next ‹_›)

theorem storeA_next {t : TypeId} {x a : AV} (hs : storeA P t a x h = some h') : h.next ≤ h'.next := by
  unfold storeA at hs
  repeat' (split at hs <;> try (cases hs; done))
  all_goals (first | exact Nat.le_of_eq (storeL_next ‹_›).symm)

theorem updateA_next {t : TypeId} {m k x : AV} (hs : updateA P t m k x h = some h') : h.next ≤ h'.next := by
  unfold updateA at hs
  repeat' (split at hs <;> try (cases hs; done))
  all_goals (cases hs; exact Nat.le_refl _)

theorem mapEntryA_next {t : TypeId} {m k a : AV} (hs : mapEntryA P t m k h = some (a, h')) : h.next ≤ h'.next := by
  unfold mapEntryA at hs
  repeat' (split at hs <;> try (cases hs; done))
  all_goals (cases hs; exact Nat.le_refl _)

theorem entryStoreA_next {m s x : AV} (hs : entryStoreA m s x h = some h') : h.next ≤ h'.next := by
  unfold entryStoreA at hs
  repeat' (split at hs <;> try (cases hs; done))
  all_goals (cases hs; exact Nat.le_refl _)

theorem rangeA_next {t : TypeId} {x a : AV} (hs : rangeA P t x h = some (a, h')) : h.next ≤ h'.next := by
  unfold rangeA at hs
  repeat' (split at hs <;> try (cases hs; done))
  all_goals (cases hs; exact Nat.le_succ _)

theorem nextA_next {x a : AV} {b : Bool} (hs : nextA x b h = some (a, h')) : h.next ≤ h'.next := by
  unfold nextA at hs
  repeat' (split at hs <;> try (cases hs; done))
  all_goals (cases hs; exact Nat.le_refl _)

theorem allocA_next {t : TypeId} {a : AV} (hs : allocA P t h = some (a, h')) : h.next ≤ h'.next := by
  unfold allocA at hs
  repeat' (split at hs <;> try (cases hs; done))
  all_goals (cases hs; exact Nat.le_succ _)

theorem buildSliceA_next {t : TypeId} {n : Nat} {l : List (Nat × AV)} {a : AV} (hs : buildSliceA P t n l h = some (a, h')) : h.next ≤ h'.next := by
  unfold buildSliceA at hs
  repeat' (split at hs <;> try (cases hs; done))
  all_goals (cases hs; exact Nat.le_succ _)

theorem makeSliceA_next {t : TypeId} {x y a : AV} (hs : makeSliceA P t x y h = some (a, h')) : h.next ≤ h'.next := by
  unfold makeSliceA at hs
  repeat' (split at hs <;> try (cases hs; done))
  all_goals (cases hs; exact Nat.le_succ _)

theorem builtinA_next {b : Builtin} {ts : List TypeId} {as : List AV} {r : ARes} (hb : builtinA P b ts as h = some r) : h.next ≤ (r.next h).next := by
  unfold builtinA at hb
  split at hb <;> try (cases hb; done)
  all_goals
    first
      | (obtain ⟨a, ha, rfl⟩ := valO_some hb; exact Nat.le_refl _)
      | (obtain ⟨a, h', ha, rfl⟩ := valP_some hb; first | exact appendA_next ha | exact copyA_next ha | exact clearA_next ha)

def NextOk (h : AH) (x : Option ARes) : Prop := ∀ r, x = some r → h.next ≤ (r.next h).next

theorem NextOk.none : NextOk h none := fun _ hs => by cases hs
theorem NextOk.bind {x : Option AV} {f : AV → Option ARes} (hf : ∀ a, NextOk h (f a)) : NextOk h (bind1 x f) := fun r hs => by
  cases x with
  | none => cases hs
  | some a => exact hf a r hs
theorem NextOk.valO {x : Option AV} : NextOk h (valO h x) := fun r hs => by
  obtain ⟨a, ha, rfl⟩ := valO_some hs; exact Nat.le_refl _
theorem NextOk.same {a : AV} : NextOk h (some (.val a h)) := fun r hs => by
  cases hs; exact Nat.le_refl _
theorem NextOk.enter {f : FuncId} {l : List AV} : NextOk h (some (.enter f l)) := fun r hs => by
  cases hs; exact Nat.le_refl _
theorem NextOk.valP {x : Option (AV × AH)} (hx : ∀ a h', x = some (a, h') → h.next ≤ h'.next) : NextOk h (valP x) := fun r hs => by
  obtain ⟨a, h', ha, rfl⟩ := valP_some hs; exact hx _ _ ha
theorem NextOk.valH {x : Option AH} (hx : ∀ h', x = some h' → h.next ≤ h'.next) : NextOk h (valH x) := fun r hs => by
  obtain ⟨h', ha, rfl⟩ := valH_some hs; exact hx _ ha

theorem stepA_next {G : Nat} {F : Fr} {o : Op} {r : ARes} (hs : stepA P G F o h = some r) : h.next ≤ (r.next h).next := by
  revert r
  show NextOk h (stepA P G F o h)
  cases o <;> dsimp only [stepA] <;> try exact NextOk.none
  case move => exact .valO
  case assign => exact .valO
  case pick =>
    refine .bind fun c => ?_
    split
    · exact .bind fun _ => .valO
    · exact .bind fun _ => .valO
    · exact .none
  case alloc => exact .valP fun a h' => allocA_next
  case box => exact .bind fun _ => .valP fun a h' e => by cases e; exact Nat.le_succ _
  case build => split; exact .valO; exact .none
  case buildSlice => split; exact .valP fun a h' => buildSliceA_next; exact .none
  case load => exact .bind fun _ => .valO
  case store => exact .bind fun _ => .bind fun _ => .valH fun h' => storeA_next
  case nilCheck => exact .bind fun _ => by split; exact .same; exact .none
  case binOp => exact .bind fun _ => .bind fun _ => .valO
  case unOp => exact .bind fun _ => .valO
  case convert => exact .bind fun _ => .valO
  case makeInterface => exact .bind fun _ => .valO
  case makeFunc => split; exact .same; exact .none
  case makeMap t x =>
    cases x <;> dsimp only
    · exact .valP fun a h' e => by cases e; exact Nat.le_succ _
    · exact .none
  case makeSlice => exact .bind fun _ => .bind fun _ => .valP fun a h' => makeSliceA_next
  case slice => exact .bind fun _ => by split; exact .valO; exact .none
  case fieldAddr => exact .bind fun _ => .valO
  case field => exact .bind fun _ => .valO
  case indexAddr => exact .bind fun _ => .bind fun _ => .valO
  case index => exact .bind fun _ => .bind fun _ => .valO
  case lookup => exact .bind fun _ => .bind fun _ => .valO
  case mapUpdate => exact .bind fun _ => .bind fun _ => .bind fun _ => .valH fun h' => updateA_next
  case insert => exact .bind fun _ => .bind fun _ => .bind fun _ => .valH fun h' => updateA_next
  case mapEntry => exact .bind fun _ => .bind fun _ => .valP fun a h' => mapEntryA_next
  case entryStore => exact .bind fun _ => .bind fun _ => .bind fun _ => .valH fun h' => entryStoreA_next
  case range => exact .bind fun _ => .valP fun a h' => rangeA_next
  case next => exact .bind fun _ => .valP fun a h' => nextA_next
  case typeAssert => exact .bind fun _ => .valO
  case extract => exact .bind fun _ => .valO
  case call c =>
    obtain ⟨callee, args, argTypes⟩ := c
    dsimp only
    split
    · exact .none
    · cases callee with
      | builtin b => exact fun r => builtinA_next
      | value f =>
        refine .bind fun f => ?_
        split
        · exact .enter
        · exact .none
      | invoke _ _ => exact .none
end
end
end Go.Proofs.Ytllldiokcnheiaa.Ab

namespace Go.Proofs.Ytllldiokcnheiaa.Ab
noncomputable section
section
variable {P : Program} {O : CallF} {G : Nat} {call : CallF} {h h' : AH}

def CallNext (call : CallF) : Prop := ∀ f args h v h', call f args h = some (v, h') → h.next ≤ h'.next

theorem doOp_next (hc : CallNext call) {ops : List Oper} {o : Oper} {F : Fr} {a : AV} (hd : doOp P G call ops o F h = some (a, h')) : h.next ≤ h'.next := by
  unfold doOp at hd
  simp only [stepT_eq] at hd
  split at hd <;> try (cases hd; done)
  · cases hd; exact Nat.le_refl _
  · split at hd <;> try (cases hd; done)
    · rename_i hs; cases hd; exact stepA_next hs
    · exact hc _ _ _ _ _ hd

theorem runOps_next (hc : CallNext call) {N : Nat} {ops : List Oper} : ∀ {l : List Oper} {F F' : Fr} {h h' : AH}, runOps P G call N ops l F h = some (F', h') → h.next ≤ h'.next
  | [], F, F', h, h', hr => by cases hr; exact Nat.le_refl _
  | o :: r, F, F', h, h', hr => by
    rw [runOps_cons] at hr
    split at hr <;> try (cases hr; done)
    rename_i a h1 hd
    split at hr <;> try (cases hr; done)
    exact Nat.le_trans (doOp_next hc hd) (runOps_next hc hr)

theorem runCanon_next (hc : CallNext call) {N : Nat} {ops : List Oper} : ∀ {l : List Nat} {F F' : Fr} {h h' : AH} {rs rs' : List Ran}, runCanon P G call N ops l F h rs = some (F', h', rs') → h.next ≤ h'.next
  | [], F, F', h, h', rs, rs', hr => by cases hr; exact Nat.le_refl _
  | i :: r, F, F', h, h', rs, rs', hr => by
    unfold runCanon at hr
    split at hr <;> try (cases hr; done)
    split at hr <;> try (cases hr; done)
    rename_i a h1 hd
    split at hr <;> try (cases hr; done)
    exact Nat.le_trans (doOp_next hc hd) (runCanon_next hc hr)

theorem runDraw_next (hc : CallNext call) {N : Nat} {ops : List Oper} {F F' : Fr} (hr : runDraw P G call N ops F h = some (F', h')) : h.next ≤ h'.next := by
  unfold runDraw at hr
  split at hr <;> try (cases hr; done)
  split at hr <;> try (cases hr; done)
  rename_i h1
  split at hr <;> try (cases hr; done)
  cases hr
  exact runCanon_next hc h1

theorem outN_some {ks : List Nat} {x : Option (Fr × AH)} {e : Ex} {F : Fr} (ho : outN ks x = some (e, F, h)) : ∃ F', x = some (F', h) ∧ e = .normal ∧ F = F'.flush ks := by
  cases x with
  | none => cases ho
  | some y => obtain ⟨F', h'⟩ := y; cases ho; exact ⟨F', rfl, rfl, rfl⟩

theorem finishA_some {fn : Func} {F : Fr} {v : AV} (hf : finishA P fn F h = some (v, h')) : h' = h ∧ ∃ l, resultsA P F h fn.results.toList = some l ∧ ((∃ a, l = [a] ∧ v = a) ∨ (l.length ≠ 1 ∧ v = .tup l)) := by
  unfold finishA at hf
  split at hf <;> try (cases hf; done)
  · rename_i a ha; cases hf; exact ⟨rfl, _, ha, .inl ⟨_, rfl, rfl⟩⟩
  · rename_i l hne hl; cases hf; exact ⟨rfl, _, hl, .inr ⟨fun h1 => by
      match l, h1 with
      | [a], _ => exact hne _ rfl, rfl⟩⟩

theorem callW_some {ih : Code → RunF} {f : FuncId} {args : List AV} {r : AV × AH} (hc : callW P O ih f args h = some r) :
    O f args h = some r ∨ ∃ fn c e F h', P.funcs[f]? = some fn ∧ fn.body = some c ∧ args.length ≤ fn.ntmps ∧ ih c fn.ntmps (keepMask fn args.length) ⟨[], initA (keepMask fn args.length) args 0 .e⟩ h = some (e, F, h') ∧
      (e = .normal ∨ e = .ret) ∧ finishA P fn F h' = some r := by
  unfold callW at hc
  split at hc
  · rename_i h1; exact .inl (h1.trans hc)
  refine .inr ?_
  unfold callF at hc
  split at hc <;> try (cases hc; done)
  rename_i fn hfn
  split at hc <;> try (cases hc; done)
  rename_i c hb
  unfold callB at hc
  split at hc <;> try (cases hc; done)
  rename_i hle
  have hle : args.length ≤ fn.ntmps := Nat.le_of_ble_eq_true hle
  split at hc <;> try (cases hc; done)
  · rename_i F1 h1 he1; exact ⟨fn, c, _, F1, h1, hfn, hb, hle, he1, .inl rfl, hc⟩
  · rename_i F1 h1 he1; exact ⟨fn, c, _, F1, h1, hfn, hb, hle, he1, .inr rfl, hc⟩

def ExecNext (P : Program) (O : CallF) (G n : Nat) : Prop := ∀ (N K : Nat) (c : Code) (F : Fr) (h : AH) (e : Ex) (F' : Fr) (h' : AH), exec P O G n c N K F h = some (e, F', h') → h.next ≤ h'.next

theorem callA_next {n : Nat} (hO : CallNext O) (hx : ExecNext P O G n) : CallNext (callA P O G n) := fun f args h v h' hc => by
  rcases callW_some hc with h0 | ⟨fn, c, e, F, h1, _, _, _, h2, _, h3⟩
  · exact hO _ _ _ _ _ h0
  · obtain ⟨rfl, _⟩ := finishA_some h3
    exact hx _ _ _ _ _ _ _ _ h2

theorem next_all (hO : CallNext O) : ∀ n : Nat, ExecNext P O G n
  | 0 => fun _ _ _ _ _ _ _ _ h => by rw [exec_zero] at h; cases h
  | n + 1 => by
    have ih1 := next_all hO n
    have ih2 := callA_next (P := P) (G := G) hO ih1
    intro N K c F h e F' h' he
    rw [exec_succ] at he
    split at he <;> try (cases he; done)
    · cases he; exact Nat.le_refl _
    · obtain ⟨F1, h1, _, _⟩ := outN_some he; exact runOps_next ih2 h1
    · obtain ⟨F1, h1, _, _⟩ := outN_some he; exact runDraw_next ih2 h1
    · split at he
      · rename_i h1; exact Nat.le_trans (ih1 _ _ _ _ _ _ _ _ h1) (ih1 _ _ _ _ _ _ _ _ he)
      · exact ih1 _ _ _ _ _ _ _ _ he
    · split at he <;> try (cases he; done)
      · exact ih1 _ _ _ _ _ _ _ _ he
      · exact ih1 _ _ _ _ _ _ _ _ he
    · split at he
      · rename_i h1
        split at he <;> cases he <;> exact ih1 _ _ _ _ _ _ _ _ h1
      · exact ih1 _ _ _ _ _ _ _ _ he
    · split at he
      · rename_i h1; exact Nat.le_trans (ih1 _ _ _ _ _ _ _ _ h1) (ih1 _ _ _ _ _ _ _ _ he)
      · exact ih1 _ _ _ _ _ _ _ _ he
    · cases he; exact Nat.le_refl _
    · cases he; exact Nat.le_refl _
    · cases he; exact Nat.le_refl _
end
end
end Go.Proofs.Ytllldiokcnheiaa.Ab

namespace Go.Proofs.Ytllldiokcnheiaa.Ab
noncomputable section
section
variable {P : Program} {G N : Nat} {call : CallF} {μ : Places} {h h' : AH} {w w' : World} {a : Act} {F : Fr}

def exOf : Ex → Exit
  | .normal => .normal
  | .exit i => .exit i
  | .ret => .ret
  | .goto l => .goto l

theorem BlkRel.congr {b : Nat} {B : Blk} (hb : BlkRel μ w b B) (hw : w'.heap = w.heap) : BlkRel μ w' b B := by
  obtain ⟨L, hL⟩ := hb.place
  exact hb.move (Le.refl _) hL (by rw [hw])

theorem RelH.congr (hr : RelH μ h w) (hw : w'.heap = w.heap) : RelH μ h w' :=
  ⟨fun b B hb => (hr.rel b B hb).congr hw, hr.lt, hr.pos, hr.famlt, hr.sep, hr.fams⟩

theorem Adv.drawn (μ : Places) (h : AH) (w : World) (n : Nat) : Adv μ h w μ h { w with drawn := n } :=
  ⟨Nat.le_refl _, Nat.le_refl _, fun _ _ => rfl, Le.refl _, fun _ B' hb => .inl ⟨B', hb, id⟩, fun _ _ _ => rfl, rfl, rfl, rfl⟩

/-- Inside a region. -/
structure Mid (G N : Nat) (μ : Places) (F : Fr) (h : AH) (a : Act) (w : World) : Prop where
  rel : RelH μ h w
  fr : FRel μ F a.tmps
  gl : GRel μ G
  sz : N ≤ a.tmps.size
  df : a.defers = []

/-- Between two parts of the code. -/
structure Ok (G N K : Nat) (μ : Places) (F : Fr) (h : AH) (a : Act) (w : World) : Prop extends Mid G N μ F h a w where
  nil : F.loc = []
  far : ∀ t x, F.far.get t = some x → bit K t = true

/-- What is behind a piece of code. -/
def Post (G N K : Nat) (μ : Places) (h : AH) (w : World) (F' : Fr) (h' : AH) (a' : Act) (w' : World) : Prop :=
  ∃ ν, Ok G N K ν F' h' a' w' ∧ Adv μ h w ν h' w'

/-- The slots that a region has written. -/
def Wrote (ops : List Oper) (F₀ F : Fr) : Prop := F.far = F₀.far ∧ ∀ t x, lookL F.loc t = some x → ∃ o ∈ ops, o.dst = some t

theorem Fresh.left {h1 h2 : AH} (hf : Fresh μ h h2) (hle : h1.next ≤ h2.next) : Fresh μ h h1 := fun b h1 h2 => hf b h1 (by omega)
theorem Fresh.right {ν : Places} {h1 h2 : AH} (hf : Fresh μ h h2) (ha : Adv μ h w ν h1 w') : Fresh ν h1 h2 := fun b h1 h2 => by
  have := ha.next_le
  rw [ha.agree b (.inr h1)]
  exact hf b (by omega) h2

/-- A call of a function on plain values, as the model's. -/
def CallOk (P : Program) (G : Nat) (call : CallF) : Prop :=
  ∀ (f : FuncId) (args : List AV) (h : AH) (v : AV) (h' : AH), call f args h = some (v, h') →
    ∀ (μ : Places) (w : World) (vs : List Value), RelH μ h w → VRels μ args vs → GRel μ G → Fresh μ h h' →
      (callFunc f vs.toArray).run P w = .ok (.enter f vs.toArray) w ∧
      Calls P f vs.toArray w fun e w' => ∃ ν u, e = .returned u ∧ VRel ν v u ∧ RelH ν h' w' ∧ Adv μ h w ν h' w'

theorem putA_put {F' : Fr} {d : Option Tmp} {x : AV} {v : Value} {ν : Places} (hp : putA N F d x = some F') (hx : VRel ν x v) (hF : FRel ν F a.tmps) (hN : N ≤ a.tmps.size) :
    FRel ν F' (a.put d v).tmps ∧ N ≤ (a.put d v).tmps.size ∧ (a.put d v).defers = a.defers := by
  unfold putA at hp
  split at hp
  · cases hp; exact ⟨hF, hN, rfl⟩
  · rename_i t
    split at hp <;> cases hp
    rename_i hle
    have hle : t < N := Nat.le_of_ble_eq_true hle
    refine ⟨fun k y hk => ?_, by simpa [Act.put] using hN, rfl⟩
    rw [Fr.get_set] at hk
    have hlt : t < a.tmps.size := Nat.lt_of_lt_of_le hle hN
    split at hk
    · rename_i e; subst e; cases hk
      simpa [Act.put, hlt] using hx
    · rename_i hne
      have := hF k y hk
      simpa [Act.put, Array.getElem?_setIfInBounds_ne (Ne.symm hne)] using this

theorem putA_skip {F' : Fr} {d : Option Tmp} {v : Value} {ν : Places} (hp : putA N F d (.tup []) = some F') (hF : FRel ν F a.tmps) (hN : N ≤ a.tmps.size) (hv : v = undef) :
    FRel ν F' (a.put d v).tmps ∧ N ≤ (a.put d v).tmps.size ∧ (a.put d v).defers = a.defers :=
  putA_put hp (by subst hv; exact VRel.tup .nil) hF hN

theorem eqB_eq {a b : Bool} : eqB a b = (a == b) := by cases a <;> cases b <;> rfl

theorem wantedA_spec {ops : Array Oper} {o : Oper} {b : Bool} (hF : FRel μ F a.tmps) (hw : wantedA ops.toList F o = some b) : Region.wanted o (yielded ops a.tmps) = b := by
  unfold wantedA at hw
  unfold Region.wanted
  split at hw
  · cases hw; rename_i hg; rw [hg]
  · rename_i j want hg
    rw [hg]
    dsimp only
    split at hw <;> try (cases hw; done)
    rename_i o' ho'
    split at hw <;> try (cases hw; done)
    rename_i t ht
    have ho : ops[j]? = some o' := by simpa using ho'
    split at hw <;> cases hw
    · rename_i c hc
      have := hF t _ hc
      unfold yielded
      rw [ho]
      simp only [Option.bind_some, ht]
      generalize hq : a.tmps.getD t undef = v at this
      cases this
      have : a.tmps[t]? = some (.bool c) := by
        rw [Array.getD_eq_getD_getElem?] at hq
        cases hx : a.tmps[t]? with
        | none => rw [hx] at hq; simp [undef] at hq
        | some y => rw [hx] at hq; simp at hq; rw [hq]
      rw [this, eqB_eq]
      simp
    · rename_i l hc
      have := hF t _ hc
      unfold yielded
      rw [ho]
      simp only [Option.bind_some, ht]
      generalize hq : a.tmps.getD t undef = v at this
      cases this
      rename_i xs hxs
      cases hx : a.tmps[t]? with
      | none => rfl
      | some y =>
        rw [Array.getD_eq_getD_getElem?, hx] at hq
        simp at hq
        subst hq
        rfl

/-- One operation at its turn. -/
theorem doOp_wp (hc : CallOk P G call) {ops : Array Oper} {o : Oper} {x : AV} (hok : Mid G N μ F h a w) (hd : doOp P G call ops.toList o F h = some (x, h')) (hf : Fresh μ h h')
    {Q : Exit → Act → World → Prop} {K : Act → World → Prop}
    (hK : ∀ ν v w', VRel ν x v → RelH ν h' w' → Adv μ h w ν h' w' → K (a.put o.dst v) w') :
    if Region.wanted o (yielded ops a.tmps) then o.wp P a w K Q ∨ (o.asks P a w ∧ LetsOut Q) else K (a.put o.dst undef) w := by
  unfold doOp at hd
  simp only [stepT_eq] at hd
  split at hd <;> try (cases hd; done)
  · rename_i hw
    cases hd
    rw [wantedA_spec hok.fr hw]
    exact hK μ undef w (VRel.tup .nil) hok.rel (Adv.refl _ _ _)
  · rename_i hw
    rw [wantedA_spec hok.fr hw, if_pos rfl]
    refine .inl ?_
    split at hd <;> try (cases hd; done)
    · rename_i y h1 hs
      cases hd
      obtain ⟨ν, n, w', h1, h2, h3, h4⟩ := stepA_run hok.rel hok.fr hok.gl hs hf
      unfold Oper.wp
      rw [h1]
      rcases h2 with ⟨v, rfl, hv⟩ | ⟨rfl, rfl⟩
      · exact hK ν v w' hv h3 h4
      · exact hK ν undef w' (VRel.tup .nil) h3 h4
    · rename_i f args hs
      have hfr : Fresh μ h ((ARes.enter f args).next h) := fun b h1 h2 => by exact absurd h2 (by show ¬ b < h.next; omega)
      obtain ⟨vs, h1, h2⟩ := stepA_run hok.rel hok.fr hok.gl hs hfr
      obtain ⟨h3, h4⟩ := hc f args h x h' hd μ w vs hok.rel h1 hok.gl hf
      unfold Oper.wp
      rw [h2, h3]
      refine Calls.mono h4 fun e w' he => ?_
      obtain ⟨ν, u, rfl, hv, hr, hA⟩ := he
      exact hK ν u w' hv hr hA

theorem Wrote.put {ops : List Oper} {o : Oper} {F₀ F' : Fr} {x : AV} (hw : Wrote ops F₀ F) (ho : o ∈ ops) (hp : putA N F o.dst x = some F') : Wrote ops F₀ F' := by
  unfold putA at hp
  split at hp
  · cases hp; exact hw
  · rename_i t ht
    split at hp <;> cases hp
    refine ⟨hw.1, fun k y hk => ?_⟩
    rw [Fr.set, lookL_cons] at hk
    split at hk
    · rename_i e; subst e; exact ⟨o, ho, ht⟩
    · exact hw.2 k y hk

theorem runOps_wp (hc : CallOk P G call) (hn : CallNext call) {ops : Array Oper} {Q : Exit → Act → World → Prop} {F₀ F' : Fr} :
    ∀ {l : List Oper} {F : Fr} {h : AH} {a : Act} {w : World} {μ : Places}, Mid G N μ F h a w → Wrote ops.toList F₀ F → (∀ o ∈ l, o ∈ ops.toList) → runOps P G call N ops.toList l F h = some (F', h') → Fresh μ h h' →
      (∀ a' w' ν, Mid G N ν F' h' a' w' → Wrote ops.toList F₀ F' → Adv μ h w ν h' w' → Q .normal a' w') → wpList P ops Q l a w
  | [], F, h, a, w, μ, hok, hwr, _, hr, _, hQ => by
    cases hr
    exact hQ a w μ hok hwr (Adv.refl _ _ _)
  | o :: r, F, h, a, w, μ, hok, hwr, hl, hr, hf, hQ => by
    rw [runOps_cons] at hr
    split at hr <;> try (cases hr; done)
    rename_i x h1 hd
    split at hr <;> try (cases hr; done)
    rename_i F1 hp
    have n1 := doOp_next hn hd
    have n2 := runOps_next hn hr
    unfold wpList
    refine doOp_wp hc hok hd (hf.left n2) fun ν v w' hv hrel hA => ?_
    obtain ⟨g1, g2, g3⟩ := putA_put hp hv (hok.fr.mono hA.le) hok.sz
    refine runOps_wp hc hn ⟨hrel, g1, hok.gl.adv hA, g2, g3.trans hok.df⟩ (hwr.put (hl o (by simp)) hp) (fun o ho => hl o (by simp [ho])) hr (hf.right hA) fun a' w'' ξ k1 k2 k3 => ?_
    exact hQ a' w'' ξ k1 k2 (hA.trans k3 hok.rel)

theorem mem_keeps {K t : Nat} : ∀ {ops : List Oper}, t ∈ keeps K ops ↔ bit K t = true ∧ ∃ o ∈ ops, o.dst = some t
  | [] => by simp [keeps]
  | o :: r => by
    unfold keeps
    split
    · rename_i u hu
      split
      · rename_i hb
        rw [List.mem_cons, mem_keeps]
        constructor
        · rintro (e | ⟨h1, o', h2, h3⟩)
          · subst e; exact ⟨hb, o, by simp, hu⟩
          · exact ⟨h1, o', by simp [h2], h3⟩
        · rintro ⟨h1, o', h2, h3⟩
          rcases List.mem_cons.1 h2 with e | h2
          · subst e; rw [hu] at h3; cases h3; exact .inl rfl
          · exact .inr ⟨h1, o', h2, h3⟩
      · rename_i hb
        rw [mem_keeps]
        constructor
        · rintro ⟨h1, o', h2, h3⟩; exact ⟨h1, o', by simp [h2], h3⟩
        · rintro ⟨h1, o', h2, h3⟩
          rcases List.mem_cons.1 h2 with e | h2
          · subst e; rw [hu] at h3; cases h3; rw [h1] at hb; cases hb
          · exact ⟨h1, o', h2, h3⟩
    · rename_i hu
      rw [mem_keeps]
      constructor
      · rintro ⟨h1, o', h2, h3⟩; exact ⟨h1, o', by simp [h2], h3⟩
      · rintro ⟨h1, o', h2, h3⟩
        rcases List.mem_cons.1 h2 with e | h2
        · subst e; rw [hu] at h3; cases h3
        · exact ⟨h1, o', h2, h3⟩

/-- At the end of a region only some slots are kept. -/
theorem Mid.flush {K : Nat} {ops : List Oper} {F₀ : Fr} (hok : Mid G N μ F h a w) (hw : Wrote ops F₀ F) (hfar : ∀ t x, F₀.far.get t = some x → bit K t = true) :
    Ok G N K μ (F.flush (keeps K ops)) h a w := by
  have key : ∀ t x, (keepL F.loc (keeps K ops) F.far).get t = some x → F.get t = some x ∧ bit K t = true := by
    intro t x hx
    rw [get_keepL] at hx
    split at hx
    · rename_i hm
      exact ⟨hx, (mem_keeps.1 hm).1⟩
    · rename_i hm
      have hb := hfar t x (by rw [← hw.1]; exact hx)
      refine ⟨?_, hb⟩
      unfold Fr.get
      cases hl : lookL F.loc t with
      | none => exact hx
      | some y => exact absurd (mem_keeps.2 ⟨hb, hw.2 t y hl⟩) hm
  exact ⟨⟨hok.rel, fun t x hx => hok.fr t x (key t x hx).1, hok.gl, hok.sz, hok.df⟩, rfl, fun t x hx => (key t x hx).2⟩

/-- A region that draws its order. -/
def DrawOk (P : Program) (G : Nat) : Prop :=
  ∀ (call : CallF), CallOk P G call → CallNext call → ∀ (N : Nat) (ops : Array Oper) (F F' : Fr) (h h' : AH), F.loc = [] → runDraw P G call N ops.toList F h = some (F', h') →
    ∀ (μ : Places) (a : Act) (w : World) (Q : Exit → Act → World → Prop), Mid G N μ F h a w → Fresh μ h h' →
      (∀ a' w' ν, Mid G N ν F' h' a' w' → Wrote ops.toList F F' → Adv μ h w ν h' w' → Q .normal a' w') → wpAny P .any ops Q ops.size (Array.replicate ops.size false) a w

def resSem (tmps : Array Value) (x : ResultVar) : Sem Value :=
  match x with
  | .tmp t => pure (tmps.getD t undef)
  | .cell b t => do loadVar t (← asAddr (tmps.getD b undef))

theorem results_eq (fn : Func) (tmps : Array Value) : results fn tmps = (do
    let vs ← fn.results.mapM (resSem tmps)
    pure (if h : vs.size = 1 then vs[0] else .tuple vs)) := rfl

theorem resultA_run {x : ResultVar} {v : AV} (hr : RelH μ h w) (hF : FRel μ F a.tmps) (hx : resultA P F h x = some v) :
    ∃ u, (resSem a.tmps x).run P w = .ok u w ∧ VRel μ v u := by
  cases x with
  | tmp t => exact ⟨_, rfl, hF t v hx⟩
  | cell b t =>
    unfold resultA at hx
    dsimp only at hx
    split at hx <;> try (cases hx; done)
    rename_i y hy
    have hv := hF b y hy
    obtain ⟨u, h1, h2⟩ := loadA_run hr hv hx
    refine ⟨u, ?_, h2⟩
    unfold resSem
    dsimp only
    generalize a.tmps.getD b undef = q at hv h1 ⊢
    cases hv <;> first | exact h1 | (unfold loadA at hx; cases hx)

theorem resultsA_run : ∀ {rs : List ResultVar} {l : List AV}, RelH μ h w → FRel μ F a.tmps → resultsA P F h rs = some l →
    ∃ us, (rs.mapM (resSem a.tmps)).run P w = .ok us w ∧ VRels μ l us
  | [], l, _, _, hx => by cases hx; exact ⟨[], by simp, .nil⟩
  | x :: r, l, hr, hF, hx => by
    unfold resultsA at hx
    split at hx <;> try (cases hx; done)
    rename_i v hv
    split at hx <;> cases hx
    rename_i l' hl'
    obtain ⟨u, h1, h2⟩ := resultA_run hr hF hv
    obtain ⟨us, h3, h4⟩ := resultsA_run hr hF hl'
    refine ⟨u :: us, ?_, .cons h2 h4⟩
    rw [List.mapM_cons]
    simp only [Sem.run_bind, h1, h3, Result.andThen_ok, Sem.run_pure]

theorem finishA_run {fn : Func} {v : AV} (hr : RelH μ h w) (hF : FRel μ F a.tmps) (hx : finishA P fn F h = some (v, h')) :
    h' = h ∧ ∃ u, (results fn a.tmps).run P w = .ok u w ∧ VRel μ v u := by
  obtain ⟨rfl, l, hl, hv⟩ := finishA_some hx
  refine ⟨rfl, ?_⟩
  obtain ⟨us, h1, h2⟩ := resultsA_run (a := a) hr hF hl
  have hrun : (results fn a.tmps).run P w = .ok (if h : us.toArray.size = 1 then us.toArray[0] else .tuple us.toArray) w := by
    rw [results_eq, Array.mapM_eq_mapM_toList]
    simp only [Sem.run_bind, Sem.run_map, h1, Result.andThen_ok, Sem.run_pure]
  rcases hv with ⟨y, rfl, rfl⟩ | ⟨hne, rfl⟩
  · cases h2 with
    | cons g t => cases t; exact ⟨_, hrun, g⟩
  · refine ⟨_, hrun, ?_⟩
    have := h2.length
    rw [dif_neg (by simp; omega)]
    exact .tup h2
end
end
end Go.Proofs.Ytllldiokcnheiaa.Ab

namespace Go.Proofs.Ytllldiokcnheiaa.Ab
noncomputable section
section
variable {P : Program} {O : CallF} {G N K : Nat} {call : CallF} {μ : Places} {h h' : AH} {w w' : World} {a : Act} {F F' : Fr}

/-- No function of the program is the one name that a call treats apart. -/
def Named (P : Program) : Prop := ∀ (f : FuncId) (fn : Func), P.funcs[f]? = some fn → fn.body.isSome = true → (fn.name == "runtime.NumGoroutine") = false

theorem callFunc_run (hn : Named P) {f : FuncId} {fn : Func} {c : Code} (hf : P.funcs[f]? = some fn) (hb : fn.body = some c) (args : Array Value) (w : World) :
    (callFunc f args).run P w = .ok (.enter f args) w := by
  have := hn f fn hf (by rw [hb]; rfl)
  have hne : ¬ fn.name = "runtime.NumGoroutine" := fun e => by rw [e] at this; simp at this
  unfold callFunc
  simp [hf, hne, hb]

theorem Ok.keep (hok : Ok G N K μ F h a w) (ha : Adv μ h w μ h w) : Post G N K μ h w F h a w := ⟨μ, hok, ha⟩

theorem Post.trans {ν : Places} {h1 : AH} {w1 : World} {a' : Act} (hr : RelH μ h w) (hA : Adv μ h w ν h1 w1) (hp : Post G N K ν h1 w1 F' h' a' w') : Post G N K μ h w F' h' a' w' :=
  let ⟨ξ, k1, k2⟩ := hp
  ⟨ξ, k1, hA.trans k2 hr⟩

theorem get_initA : ∀ {l : List AV} {i : Nat} {T : PM AV} {t : Nat} {x : AV}, (initA K l i T).get t = some x → (i ≤ t ∧ l[t - i]? = some x ∧ bit K t = true) ∨ T.get t = some x
  | [], i, T, t, x, hx => .inr hx
  | y :: r, i, T, t, x, hx => by
    unfold initA at hx
    have step : ∀ {T' : PM AV}, (initA K r (Nat.succ i) T').get t = some x → (i ≤ t ∧ (y :: r)[t - i]? = some x ∧ bit K t = true) ∨ T'.get t = some x := by
      intro T' hx
      rcases get_initA hx with ⟨h1, h2, h3⟩ | h1
      · refine .inl ⟨by omega, ?_, h3⟩
        have : t - i = (t - Nat.succ i) + 1 := by omega
        rw [this]; simpa using h2
      · exact .inr h1
    split at hx
    · rename_i hb
      rcases step hx with h1 | h1
      · exact .inl h1
      · rw [PM.get_set] at h1
        split at h1
        · rename_i e; subst e; cases h1; exact .inl ⟨Nat.le_refl _, by simp, hb⟩
        · exact .inr h1
    · exact step hx

theorem enter_ok {args : List AV} {vs : List Value} (hr : RelH μ h w) (hv : VRels μ args vs) (hg : GRel μ G) (hN : args.length ≤ N) :
    Ok G N K μ ⟨[], initA K args 0 .e⟩ h { tmps := vs.toArray ++ Array.replicate (N - vs.toArray.size) undef, defers := [] } w := by
  have hl := hv.length
  have hget : ∀ t x, (initA K args 0 .e).get t = some x → args[t]? = some x ∧ bit K t = true := by
    intro t x hx
    rcases get_initA hx with ⟨h1, h2, h3⟩ | h1
    · exact ⟨by simpa using h2, h3⟩
    · rw [PM.get_e] at h1; cases h1
  refine ⟨⟨hr, ?_, hg, by simp; omega, rfl⟩, rfl, fun t x hx => (hget t x hx).2⟩
  intro t x hx
  have hx : (initA K args 0 .e).get t = some x := by
    unfold Fr.get lookL at hx; exact hx
  obtain ⟨v, h1, h2⟩ := hv.get t x (hget t x hx).1
  have hlt : t < vs.length := (List.getElem?_eq_some_iff.1 h1).1
  have : ((vs.toArray ++ Array.replicate (N - vs.toArray.size) undef).getD t undef) = v := by
    rw [Array.getD_eq_getD_getElem?, Array.getElem?_append_left (by simpa using hlt)]
    simp [h1]
  show VRel μ x ((vs.toArray ++ Array.replicate (N - vs.toArray.size) undef).getD t undef)
  rw [this]; exact h2

def CodeOk (P : Program) (O : CallF) (G : Nat) (n : Nat) : Prop :=
  ∀ (N K : Nat) (c : Code) (F : Fr) (h : AH) (e : Ex) (F' : Fr) (h' : AH), exec P O G n c N K F h = some (e, F', h') →
    ∀ (μ : Places) (a : Act) (w : World) (Q : Exit → Act → World → Prop), Ok G N K μ F h a w → Fresh μ h h' →
      (∀ a' w', Post G N K μ h w F' h' a' w' → Q (exOf e) a' w') → c.wp P Q a w

def LoopOk (P : Program) (O : CallF) (G : Nat) (n : Nat) : Prop :=
  ∀ (N K : Nat) (b : Code) (F : Fr) (h : AH) (e : Ex) (F' : Fr) (h' : AH), exec P O G n (.loop b) N K F h = some (e, F', h') →
    ∀ (μ : Places) (a : Act) (w : World) (Q : Exit → Act → World → Prop), Ok G N K μ F h a w → Fresh μ h h' →
      (∀ a' w', Post G N K μ h w F' h' a' w' → Q (exOf e) a' w') → Code.rounds P b Q n a w

theorem call_ok (hO : CallOk P G O) (hnm : Named P) {n : Nat} (ih : CodeOk P O G n) : CallOk P G (callA P O G n) := fun f args h v h' hc μ w vs hr hv hg hf => by
  rcases callW_some hc with h0 | ⟨fn, c, e, F1, h1, hfn, hb, hle, he1, hor, hfin⟩
  · exact hO f args h v h' h0 μ w vs hr hv hg hf
  refine ⟨callFunc_run hnm hfn hb _ _, ?_⟩
  have hok := enter_ok (K := keepMask fn args.length) hr hv hg hle
  obtain ⟨rfl, _⟩ := finishA_some hfin
  refine calls_of_wp hfn hb (ih _ _ _ _ _ _ _ _ he1 μ _ w _ hok hf fun a' w' ⟨ν, k1, k2⟩ => ?_)
  obtain ⟨_, u, h3, h4⟩ := finishA_run k1.rel k1.fr hfin
  rcases hor with rfl | rfl
  · exact bodyPost_end h3 k1.df ⟨ν, u, rfl, h4, k1.rel, k2⟩
  · exact bodyPost_ret h3 k1.df ⟨ν, u, rfl, h4, k1.rel, k2⟩

theorem sound_all (hO : CallOk P G O) (hOn : CallNext O) (hd : DrawOk P G) (hm : P.follows .mixedOrders = true) (hnm : Named P) : ∀ n : Nat, CodeOk P O G n ∧ LoopOk P O G n
  | 0 => ⟨fun _ _ _ _ _ _ _ _ h => (by rw [exec_zero] at h; cases h), fun _ _ _ _ _ _ _ _ h => (by rw [exec_zero] at h; cases h)⟩
  | n + 1 => by
    obtain ⟨ih1, ih3⟩ := sound_all hO hOn hd hm hnm n
    have nx1 := next_all (P := P) (G := G) hOn n
    have nx2 := callA_next hOn nx1
    have ih2 := call_ok hO hnm ih1
    have loop : LoopOk P O G (n + 1) := fun N K b F h e F' h' he μ a w Q hok hf hQ => by
      rw [exec_succ] at he
      dsimp only at he
      rw [rounds_succ]
      split at he
      · rename_i F1 h1 he1
        refine ih1 _ _ _ _ _ _ _ _ he1 μ a w _ hok (hf.left (nx1 _ _ _ _ _ _ _ _ he)) fun a' w' ⟨ν, k1, k2⟩ => ?_
        exact ih3 _ _ _ _ _ _ _ _ he ν a' w' Q k1 (hf.right k2) fun a'' w'' hp => hQ _ _ (hp.trans hok.rel k2)
      · rename_i hne
        refine ih1 _ _ _ _ _ _ _ _ he μ a w _ hok hf fun a' w' hp => ?_
        have := hQ a' w' hp
        cases e with
        | normal => exact absurd he (hne _ _)
        | _ => exact this
    refine ⟨fun N K c F h e F' h' he μ a w Q hok hf hQ => ?_, loop⟩
    · rw [exec_succ] at he
      split at he <;> try (cases he; done)
      · cases he; exact wp_skip (hQ _ _ ⟨μ, hok, Adv.refl _ _ _⟩)
      · rename_i id ops
        obtain ⟨F1, h1, rfl, rfl⟩ := outN_some he
        refine wp_region_list (runOps_wp ih2 nx2 hok.toMid ⟨rfl, fun t x hx => ?_⟩ (fun o ho => ho) h1 hf fun a' w' ν k1 k2 k3 => ?_)
        · rw [hok.nil] at hx; cases hx
        · exact hQ a' w' ⟨ν, k1.flush k2 hok.far, k3⟩
      · rename_i id ops
        obtain ⟨F1, h1, rfl, rfl⟩ := outN_some he
        have hok' : Mid G N μ F h a { w with drawn := w.drawn + 1 } := ⟨hok.rel.congr rfl, hok.fr, hok.gl, hok.sz, hok.df⟩
        refine wp_region_any hm (hd _ ih2 nx2 N ops F F1 h h' hok.nil h1 μ a _ Q hok' hf fun a' w' ν k1 k2 k3 => ?_)
        exact hQ a' w' ⟨ν, k1.flush k2 hok.far, (Adv.drawn μ h w _).trans k3 hok.rel⟩
      · rename_i x y
        refine wp_seq ?_
        split at he
        · rename_i F1 h1 he1
          refine ih1 _ _ _ _ _ _ _ _ he1 μ a w _ hok (hf.left (nx1 _ _ _ _ _ _ _ _ he)) fun a' w' ⟨ν, k1, k2⟩ => ?_
          exact ih1 _ _ _ _ _ _ _ _ he ν a' w' Q k1 (hf.right k2) fun a'' w'' hp => hQ _ _ (hp.trans hok.rel k2)
        · rename_i hne
          refine ih1 _ _ _ _ _ _ _ _ he μ a w _ hok hf fun a' w' hp => ?_
          have := hQ a' w' hp
          cases e with
          | normal => exact absurd he (hne _ _)
          | _ => exact this
      · rename_i x c1 c2
        split at he <;> try (cases he; done)
        · rename_i hx
          have hv := evalA_rel hok.fr hok.gl hx
          refine wp_cond_true (by generalize a.eval x = q at hv; cases hv; rfl) ?_
          exact ih1 _ _ _ _ _ _ _ _ he μ a w Q hok hf hQ
        · rename_i hx
          have hv := evalA_rel hok.fr hok.gl hx
          refine wp_cond_false (by generalize a.eval x = q at hv; cases hv; rfl) ?_
          exact ih1 _ _ _ _ _ _ _ _ he μ a w Q hok hf hQ
      · rename_i id b
        refine wp_block ?_
        split at he
        · rename_i id' F1 h1 he1
          split at he <;> cases he
          · rename_i heq
            refine ih1 _ _ _ _ _ _ _ _ he1 μ a w _ hok hf fun a' w' hp => ?_
            have : id' = id := Nat.eq_of_beq_eq_true heq
            show if id' = id then Q .normal a' w' else Q (.exit id') a' w'
            rw [if_pos this]; exact hQ a' w' hp
          · rename_i heq
            refine ih1 _ _ _ _ _ _ _ _ he1 μ a w _ hok hf fun a' w' hp => ?_
            have : id' ≠ id := Nat.ne_of_beq_eq_false heq
            show if id' = id then Q .normal a' w' else Q (.exit id') a' w'
            rw [if_neg this]; exact hQ a' w' hp
        · rename_i hne
          refine ih1 _ _ _ _ _ _ _ _ he μ a w _ hok hf fun a' w' hp => ?_
          have := hQ a' w' hp
          cases e with
          | exit i => exact absurd he (hne _ _ _)
          | _ => exact this
      · rename_i b
        exact wp_loop_rounds (n + 1) (loop N K b F h e F' h' (by rw [exec_succ]; exact he) μ a w Q hok hf hQ)
      · cases he; exact wp_exit (hQ _ _ ⟨μ, hok, Adv.refl _ _ _⟩)
      · cases he; exact wp_label (hQ _ _ ⟨μ, hok, Adv.refl _ _ _⟩)
      · cases he; exact wp_ret (hQ _ _ ⟨μ, hok, Adv.refl _ _ _⟩)
end
end
end Go.Proofs.Ytllldiokcnheiaa.Ab
