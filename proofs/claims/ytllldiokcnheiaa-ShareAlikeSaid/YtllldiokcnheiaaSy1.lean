/- Symbolic runs: the slots that are known are listed; a rule for each kind of operation and of code; memories, new blocks, stores and appends. No conditions beyond those named. -/
import Derived.Test.YtllldiokcnheiaaAb6

namespace Go.Proofs.Ytllldiokcnheiaa.Ab
noncomputable section

/-- Known slots. -/
inductive LF where
  | nil
  | cons (t : Nat) (a : AV) (r : LF)

def LF.get : LF → Nat → Option AV
  | .nil, _ => none
  | .cons t a r, k => match Nat.beq t k with
    | true => some a
    | false => r.get k

theorem LF.get_cons (t : Nat) (a : AV) (r : LF) (k : Nat) : (LF.cons t a r).get k = if k = t then some a else r.get k := by
  show (match Nat.beq t k with | true => some a | false => r.get k) = _
  by_cases h : k = t
  · subst h; simp
  · have : Nat.beq t k = false := by rw [← Bool.not_eq_true, Nat.beq_eq]; exact fun e => h e.symm
    rw [this, if_neg h]

def Has (F : Fr) (L : LF) : Prop := ∀ t a, L.get t = some a → F.get t = some a

def putL (L : LF) (d : Option Tmp) (a : AV) : LF :=
  match d with
  | none => L
  | some t => .cons t a L

section
variable {P : Program} {O : CallF} {G N K : Nat} {F : Fr} {L : LF} {h h1 : AH}

theorem Has.put {F F' : Fr} {L : LF} {d : Option Tmp} {a : AV} (hp : putA N F d a = some F') (hF : Has F L) : Has F' (putL L d a) := by
  unfold putA at hp
  split at hp
  · cases hp; exact hF
  · rename_i t
    split at hp <;> cases hp
    intro k x hk
    rw [putL, LF.get_cons] at hk
    rw [Fr.get_set]
    split at hk
    · rename_i e; rw [if_pos e]; exact hk
    · rename_i e; rw [if_neg e]; exact hF k x hk

theorem Has.refine {F : Fr} {L : LF} {t : Nat} {a : AV} (hF : Has F L) (ht : L.get t = some a) : Has F (.cons t a L) := by
  intro k x hk
  rw [LF.get_cons] at hk
  split at hk
  · rename_i e; cases hk; subst e; exact hF _ _ ht
  · exact hF k x hk

def evalL (G : Nat) (L : LF) : Operand → Option AV
  | .tmp t => L.get t
  | .const v => ofV v
  | .global g => match Nat.ble (Nat.succ g) G with
    | true => some (.ptr (Nat.succ g) 0)
    | false => none
  | .func f => some (.fn (.func f) [] [])

def evalsL (G : Nat) (L : LF) : List Operand → Option (List AV)
  | [] => some []
  | x :: r => match evalL G L x with
    | some a => match evalsL G L r with
      | some l => some (a :: l)
      | none => none
    | none => none

def evalOL (G : Nat) (L : LF) : Option Operand → Option (Option AV)
  | none => some none
  | some x => match evalL G L x with
    | some a => some (some a)
    | none => none

def evalPL (G : Nat) (L : LF) : List (Nat × Operand) → Option (List (Nat × AV))
  | [] => some []
  | (i, x) :: r => match evalL G L x with
    | some a => match evalPL G L r with
      | some l => some ((i, a) :: l)
      | none => none
    | none => none

theorem Has.eval (hF : Has F L) {x : Operand} {a : AV} (hx : evalL G L x = some a) : evalA G F x = some a := by
  cases x with
  | tmp t => exact hF t a hx
  | const v => exact hx
  | global g => exact hx
  | func f => exact hx

theorem Has.evals (hF : Has F L) : ∀ {l : List Operand} {as : List AV}, evalsL G L l = some as → evalsA G F l = some as
  | [], as, h => h
  | x :: r, as, h => by
    unfold evalsL at h
    split at h <;> try cases h
    rename_i a ha
    split at h <;> cases h
    rename_i l hl
    unfold evalsA
    rw [hF.eval ha, hF.evals hl]

theorem Has.evalO (hF : Has F L) {x : Option Operand} {a : Option AV} (hx : evalOL G L x = some a) : Ab.evalO G F x = some a := by
  cases x with
  | none => exact hx
  | some x =>
    unfold evalOL at hx
    dsimp only at hx
    split at hx <;> cases hx
    rename_i a ha
    unfold Ab.evalO
    dsimp only
    rw [hF.eval ha]

theorem Has.evalP (hF : Has F L) : ∀ {l : List (Nat × Operand)} {as : List (Nat × AV)}, evalPL G L l = some as → Ab.evalP G F l = some as
  | [], as, h => h
  | (i, x) :: r, as, h => by
    unfold evalPL at h
    split at h <;> try cases h
    rename_i a ha
    split at h <;> cases h
    rename_i l hl
    unfold Ab.evalP
    rw [hF.eval ha, hF.evalP hl]

/-- One operation, from the slots that are known. -/
def St (P : Program) (G : Nat) (L : LF) (op : Op) (h : AH) (a : AV) (h1 : AH) : Prop := ∀ F, Has F L → stepA P G F op h = some (.val a h1)

namespace St
variable {a b c p : AV} {x y : Operand} {t : TypeId}
theorem move (hx : evalL G L x = some a) : St P G L (.move x) h a h := fun F hF => by unfold stepA; dsimp only; rw [hF.eval hx]; rfl
theorem assign (hx : evalL G L x = some a) : St P G L (.assign x) h a h := fun F hF => by unfold stepA; dsimp only; rw [hF.eval hx]; rfl
theorem pick {b : Bool} {z : Operand} {va vb : AV} (hz : evalL G L z = some (.bool b)) (hx : evalL G L x = some va) (hy : evalL G L y = some vb) :
    St P G L (.pick z x y) h (match b with | true => va | false => vb) h := fun F hF => by
  unfold stepA; dsimp only; rw [hF.eval hz]; cases b <;> (simp only [bind1]; rw [hF.eval hx, hF.eval hy]; rfl)
theorem pickT {z : Operand} {va vb : AV} (hz : evalL G L z = some (.bool true)) (hx : evalL G L x = some va) (hy : evalL G L y = some vb) : St P G L (.pick z x y) h va h := pick hz hx hy
theorem pickF {z : Operand} {va vb : AV} (hz : evalL G L z = some (.bool false)) (hx : evalL G L x = some va) (hy : evalL G L y = some vb) : St P G L (.pick z x y) h vb h := pick hz hx hy
theorem alloc (ha : allocA P t h = some (a, h1)) : St P G L (.alloc t) h a h1 := fun F hF => by unfold stepA; dsimp only; rw [ha]; rfl
theorem box (hx : evalL G L x = some a) : St P G L (.box t x) h (.ptr h.next 0) (h.new (cellsA a)) := fun F hF => by unfold stepA; dsimp only; rw [hF.eval hx]; rfl
theorem build {ps : Array (Nat × Operand)} {vs : List (Nat × AV)} (hp : evalPL G L ps.toList = some vs) (hb : buildA P t vs = some a) : St P G L (.build t ps) h a h := fun F hF => by
  unfold stepA; dsimp only; rw [hF.evalP hp]; dsimp only; rw [hb]; rfl
theorem buildSlice {ps : Array (Nat × Operand)} {n : Nat} {vs : List (Nat × AV)} (hp : evalPL G L ps.toList = some vs) (hb : buildSliceA P t n vs h = some (a, h1)) : St P G L (.buildSlice t n ps) h a h1 := fun F hF => by
  unfold stepA; dsimp only; rw [hF.evalP hp]; dsimp only; rw [hb]; rfl
theorem load (hx : evalL G L x = some p) (hl : loadA P t p h = some a) : St P G L (.load t x) h a h := fun F hF => by unfold stepA; dsimp only; rw [hF.eval hx]; simp only [bind1]; rw [hl]; rfl
theorem store (hx : evalL G L x = some p) (hy : evalL G L y = some a) (hs : storeA P t p a h = some h1) : St P G L (.store t x y) h (.tup []) h1 := fun F hF => by
  unfold stepA; dsimp only; rw [hF.eval hx]; simp only [bind1]; rw [hF.eval hy]; simp only; rw [hs]; rfl
theorem nilCheck (hx : evalL G L x = some a) (hs : solidA a = true) : St P G L (.nilCheck x) h a h := fun F hF => by unfold stepA; dsimp only; rw [hF.eval hx]; simp only [bind1]; rw [hs]
theorem bin {op : BinOp} {u : TypeId} (hx : evalL G L x = some a) (hy : evalL G L y = some b) (hb : binA P op t a b = some c) : St P G L (.binOp op t x y u) h c h := fun F hF => by
  unfold stepA; dsimp only; rw [hF.eval hx]; simp only [bind1]; rw [hF.eval hy]; simp only; rw [hb]; rfl
theorem un {op : UnOp} (hx : evalL G L x = some a) (hb : unA op a = some c) : St P G L (.unOp op t x) h c h := fun F hF => by
  unfold stepA; dsimp only; rw [hF.eval hx]; simp only [bind1]; rw [hb]; rfl
theorem convert {s d : TypeId} (hx : evalL G L x = some a) (hb : convA P s d a = some c) : St P G L (.convert s d x) h c h := fun F hF => by
  unfold stepA; dsimp only; rw [hF.eval hx]; simp only [bind1]; rw [hb]; rfl
theorem makeFunc {f : Fn} {xs ys : Array Operand} {as bs : List AV} (hx : evalsL G L xs.toList = some as) (hy : evalsL G L ys.toList = some bs) : St P G L (.makeFunc f xs ys) h (.fn f as bs) h := fun F hF => by
  unfold stepA; dsimp only; rw [hF.evals hx, hF.evals hy]
theorem makeMap : St P G L (.makeMap t none) h (.map h.next) (h.newObj (.map [] 0)) := fun _ _ => rfl
theorem makeSlice (hx : evalL G L x = some a) (hy : evalL G L y = some b) (hb : makeSliceA P t a b h = some (c, h1)) : St P G L (.makeSlice t x y) h c h1 := fun F hF => by
  unfold stepA; dsimp only; rw [hF.eval hx]; simp only [bind1]; rw [hF.eval hy]; simp only; rw [hb]; rfl
theorem slice {lo hi mx : Option Operand} {l i m : Option AV} (hx : evalL G L x = some a) (hl : evalOL G L lo = some l) (hi' : evalOL G L hi = some i) (hm : evalOL G L mx = some m) (hb : sliceA P t a l i m = some c) :
    St P G L (.slice t x lo hi mx) h c h := fun F hF => by
  unfold stepA; dsimp only; rw [hF.eval hx]; simp only [bind1]; rw [hF.evalO hl, hF.evalO hi', hF.evalO hm]; simp only; rw [hb]; rfl
theorem fieldAddr {f : Nat} (hx : evalL G L x = some a) (hb : fieldAddrA P t a f = some c) : St P G L (.fieldAddr t x f) h c h := fun F hF => by
  unfold stepA; dsimp only; rw [hF.eval hx]; simp only [bind1]; rw [hb]; rfl
theorem field {f : Nat} (hx : evalL G L x = some a) (hb : fieldA P t a f = some c) : St P G L (.field t x f) h c h := fun F hF => by
  unfold stepA; dsimp only; rw [hF.eval hx]; simp only [bind1]; rw [hb]; rfl
theorem indexAddr (hx : evalL G L x = some a) (hy : evalL G L y = some b) (hb : indexAddrA P t a b = some c) : St P G L (.indexAddr t x y) h c h := fun F hF => by
  unfold stepA; dsimp only; rw [hF.eval hx]; simp only [bind1]; rw [hF.eval hy]; simp only; rw [hb]; rfl
theorem index (hx : evalL G L x = some a) (hy : evalL G L y = some b) (hb : indexA P t a b = some c) : St P G L (.index t x y) h c h := fun F hF => by
  unfold stepA; dsimp only; rw [hF.eval hx]; simp only [bind1]; rw [hF.eval hy]; simp only; rw [hb]; rfl
theorem lookup {ok : Bool} (hx : evalL G L x = some a) (hy : evalL G L y = some b) (hb : lookupA P t a b ok h = some c) : St P G L (.lookup t x y ok) h c h := fun F hF => by
  unfold stepA; dsimp only; rw [hF.eval hx]; simp only [bind1]; rw [hF.eval hy]; simp only; rw [hb]; rfl
theorem mapUpdate {z : Operand} {d : AV} (hx : evalL G L x = some a) (hy : evalL G L y = some b) (hz : evalL G L z = some d) (hb : updateA P t a b d h = some h1) : St P G L (.mapUpdate t x y z) h (.tup []) h1 := fun F hF => by
  unfold stepA; dsimp only; rw [hF.eval hx]; simp only [bind1]; rw [hF.eval hy]; simp only; rw [hF.eval hz]; simp only; rw [hb]; rfl
theorem insert {z : Operand} {d : AV} (hx : evalL G L x = some a) (hy : evalL G L y = some b) (hz : evalL G L z = some d) (hb : updateA P t a b d h = some h1) : St P G L (.insert t x y z) h (.tup []) h1 := fun F hF => by
  unfold stepA; dsimp only; rw [hF.eval hx]; simp only [bind1]; rw [hF.eval hy]; simp only; rw [hF.eval hz]; simp only; rw [hb]; rfl
theorem mapEntry (hx : evalL G L x = some a) (hy : evalL G L y = some b) (hb : mapEntryA P t a b h = some (c, h1)) : St P G L (.mapEntry t x y) h c h1 := fun F hF => by
  unfold stepA; dsimp only; rw [hF.eval hx]; simp only [bind1]; rw [hF.eval hy]; simp only; rw [hb]; rfl
theorem entryStore {z : Operand} {d : AV} (hx : evalL G L x = some a) (hy : evalL G L y = some b) (hz : evalL G L z = some d) (hb : entryStoreA a b d h = some h1) : St P G L (.entryStore t x y z) h (.tup []) h1 := fun F hF => by
  unfold stepA; dsimp only; rw [hF.eval hx]; simp only [bind1]; rw [hF.eval hy]; simp only; rw [hF.eval hz]; simp only; rw [hb]; rfl
theorem extract {i : Nat} (hx : evalL G L x = some a) (hb : extractA a i = some c) : St P G L (.extract x i) h c h := fun F hF => by
  unfold stepA; dsimp only; rw [hF.eval hx]; simp only [bind1]; rw [hb]; rfl
theorem builtin {bi : Builtin} {xs : Array Operand} {ts : Array TypeId} {as : List AV} (hx : evalsL G L xs.toList = some as) (hb : builtinA P bi ts.toList as h = some (.val c h1)) : St P G L (.call ⟨.builtin bi, xs, ts⟩) h c h1 := fun F hF => by
  unfold stepA; dsimp only; rw [hF.evals hx]; dsimp only; exact hb
theorem len {x : Operand} (hx : evalL G L x = some a) (hb : lenOfA P t a h = some c) : St P G L (.call ⟨.builtin .len, #[x], #[t]⟩) h c h :=
  builtin (as := [a]) (by simp only [evalsL, hx]) (by show valO h (lenOfA P t a h) = _; rw [hb]; rfl)
theorem append {u : TypeId} (hx : evalL G L x = some a) (hy : evalL G L y = some b) (hb : appendA P t u a b h = some (c, h1)) : St P G L (.call ⟨.builtin .append, #[x, y], #[t, u]⟩) h c h1 :=
  builtin (as := [a, b]) (by simp only [evalsL, hx, hy]) (by show valP (appendA P t u a b h) = _; rw [hb]; rfl)
theorem cast {op : Op} {a' : AV} (hs : St P G L op h a' h1) (e : a' = a) : St P G L op h a h1 := e ▸ hs
end St

/-! ### What a call comes to -/

def Cl (P : Program) (O : CallF) (G : Nat) (f : FuncId) (args : List AV) (h : AH) (Q : AV → AH → Prop) : Prop := ∃ n v h1, callA P O G n f args h = some (v, h1) ∧ Q v h1

theorem Cl.mono {f : FuncId} {args : List AV} {Q Q' : AV → AH → Prop} (hc : Cl P O G f args h Q) (hQ : ∀ v h1, Q v h1 → Q' v h1) : Cl P O G f args h Q' :=
  let ⟨n, v, h1, h2, h3⟩ := hc
  ⟨n, v, h1, h2, hQ _ _ h3⟩

/-! ### Regions -/

def Rn (P : Program) (O : CallF) (G N : Nat) (ops l : List Oper) (L : LF) (h : AH) (Q : LF → AH → Prop) : Prop :=
  ∀ F, Has F L → ∃ n F1 h1 L1, runOps P G (callA P O G n) N ops l F h = some (F1, h1) ∧ Has F1 L1 ∧ Q L1 h1

theorem doOp_val {call : CallF} {ops : List Oper} {d : Option Tmp} {op : Op} {ty : TypeId} {pos : String} {aft : Array Edge} {a : AV} (hs : stepA P G F op h = some (.val a h1)) :
    doOp P G call ops ⟨d, op, ty, pos, aft, none⟩ F h = some (a, h1) := by
  unfold doOp wantedA
  dsimp only
  rw [stepT_eq, hs]

theorem runOps_up {ops l : List Oper} {n m : Nat} (hnm : n ≤ m) {F : Fr} {h : AH} {r : Fr × AH} (hr : runOps P G (callA P O G n) N ops l F h = some r) : runOps P G (callA P O G m) N ops l F h = some r :=
  runOps_mono (callA_mono (fun N K c F h r he => exec_mono hnm N K c F h r he)) hr

namespace Rn
variable {ops r : List Oper} {Q : LF → AH → Prop} {d : Option Tmp} {op : Op} {ty : TypeId} {pos : String} {aft : Array Edge} {a : AV}

theorem nil (hQ : Q L h) : Rn P O G N ops [] L h Q := fun F hF => ⟨0, F, h, L, rfl, hF, hQ⟩

def okD (N : Nat) : Option Tmp → Bool
  | none => true
  | some t => Nat.ble (Nat.succ t) N

theorem put_ok {d : Option Tmp} (hd : okD N d = true) (F : Fr) (a : AV) : ∃ F', putA N F d a = some F' := by
  cases d with
  | none => exact ⟨F, rfl⟩
  | some t =>
    unfold okD at hd
    unfold putA
    dsimp only at hd ⊢
    rw [hd]
    exact ⟨_, rfl⟩

theorem val (hs : St P G L op h a h1) (hd : okD N d = true) (k : Rn P O G N ops r (putL L d a) h1 Q) : Rn P O G N ops (⟨d, op, ty, pos, aft, none⟩ :: r) L h Q := fun F hF => by
  obtain ⟨F', hF'⟩ := put_ok hd F a
  obtain ⟨n, F1, h2, L1, k1, k2, k3⟩ := k F' (hF.put hF')
  refine ⟨n, F1, h2, L1, ?_, k2, k3⟩
  rw [runOps_cons, doOp_val (hs F hF)]
  dsimp only
  rw [hF']
  exact k1

theorem call {x : Operand} {xs : Array Operand} {ts : Array TypeId} {as first cap : List AV} {g : FuncId} {C : AV → AH → Prop} (hx : evalL G L x = some (.fn (.func g) first cap)) (hxs : evalsL G L xs.toList = some as)
    (hd : okD N d = true) (hc : Cl P O G g (first ++ as ++ cap) h C) (k : ∀ v h1, C v h1 → Rn P O G N ops r (putL L d v) h1 Q) : Rn P O G N ops (⟨d, .call ⟨.value x, xs, ts⟩, ty, pos, aft, none⟩ :: r) L h Q := fun F hF => by
  obtain ⟨n, v, h1, c1, c2⟩ := hc
  obtain ⟨F', hF'⟩ := put_ok hd F v
  obtain ⟨m, F1, h2, L1, k1, k2, k3⟩ := k v h1 c2 F' (hF.put hF')
  refine ⟨max n m, F1, h2, L1, ?_, k2, k3⟩
  rw [runOps_cons]
  have e : doOp P G (callA P O G (max n m)) ops ⟨d, .call ⟨.value x, xs, ts⟩, ty, pos, aft, none⟩ F h = some (v, h1) := by
    unfold doOp wantedA
    dsimp only
    rw [stepT_eq]
    unfold stepA
    dsimp only
    rw [hF.evals hxs, hF.eval hx]
    exact callA_mono (fun N K c F h r he => exec_mono (Nat.le_max_left n m) N K c F h r he) _ _ _ _ c1
  rw [e]
  dsimp only
  rw [hF']
  exact runOps_up (Nat.le_max_right n m) k1

def guardOf (ops : List Oper) (j : Nat) : Option Tmp :=
  match ops[j]? with
  | none => none
  | some o => o.dst

theorem guard {j : Nat} {want : Bool} {tg : Tmp} {b : Bool} (hj : guardOf ops j = some tg) (hb : L.get tg = some (.bool b)) (hd : okD N d = true)
    (k1 : b = want → Rn P O G N ops (⟨d, op, ty, pos, aft, none⟩ :: r) (.cons tg (.bool want) L) h Q)
    (k0 : b = !want → Rn P O G N ops r (putL (.cons tg (.bool (!want)) L) d (.tup [])) h Q) : Rn P O G N ops (⟨d, op, ty, pos, aft, some (j, want)⟩ :: r) L h Q := fun F hF => by
  have hget := hF _ _ hb
  have hw : wantedA ops F ⟨d, op, ty, pos, aft, some (j, want)⟩ = some (eqB b want) := by
    unfold guardOf at hj
    unfold wantedA
    dsimp only
    split at hj
    · cases hj
    · rename_i o ho
      rw [ho]
      dsimp only
      rw [hj]
      dsimp only
      rw [hget]
  by_cases hbw : b = want
  · have hF2 : Has F (.cons tg (.bool want) L) := hF.refine (by rw [hb, hbw])
    obtain ⟨n, F1, h2, L1, e1, e2, e3⟩ := k1 hbw F hF2
    refine ⟨n, F1, h2, L1, ?_, e2, e3⟩
    rw [runOps_cons] at e1 ⊢
    have e : doOp P G (callA P O G n) ops ⟨d, op, ty, pos, aft, some (j, want)⟩ F h = doOp P G (callA P O G n) ops ⟨d, op, ty, pos, aft, none⟩ F h := by
      unfold doOp
      rw [hw, hbw]
      cases want <;> rfl
    rw [e]
    exact e1
  · have hbn : b = !want := by cases b <;> cases want <;> simp_all
    have hF2 : Has F (.cons tg (.bool (!want)) L) := hF.refine (by rw [hb, hbn])
    obtain ⟨F', hF'⟩ := put_ok hd F (.tup [])
    obtain ⟨n, F1, h2, L1, e1, e2, e3⟩ := k0 hbn F' (hF2.put hF')
    refine ⟨n, F1, h2, L1, ?_, e2, e3⟩
    rw [runOps_cons]
    have e : doOp P G (callA P O G n) ops ⟨d, op, ty, pos, aft, some (j, want)⟩ F h = some (.tup [], h) := by
      unfold doOp
      rw [hw, hbn]
      cases want <;> rfl
    rw [e]
    dsimp only
    rw [hF']
    exact e1

theorem guardT {j : Nat} {want : Bool} {tg : Tmp} (hj : guardOf ops j = some tg) (hb : L.get tg = some (.bool want)) (k1 : Rn P O G N ops (⟨d, op, ty, pos, aft, none⟩ :: r) L h Q) : Rn P O G N ops (⟨d, op, ty, pos, aft, some (j, want)⟩ :: r) L h Q := fun F hF => by
  have hget := hF _ _ hb
  have hw : wantedA ops F ⟨d, op, ty, pos, aft, some (j, want)⟩ = some true := by
    unfold guardOf at hj
    unfold wantedA
    dsimp only
    split at hj
    · cases hj
    · rename_i o ho
      rw [ho]
      dsimp only
      rw [hj]
      dsimp only
      rw [hget]
      cases want <;> rfl
  obtain ⟨n, F1, h2, L1, e1, e2, e3⟩ := k1 F hF
  refine ⟨n, F1, h2, L1, ?_, e2, e3⟩
  rw [runOps_cons] at e1 ⊢
  have e : doOp P G (callA P O G n) ops ⟨d, op, ty, pos, aft, some (j, want)⟩ F h = doOp P G (callA P O G n) ops ⟨d, op, ty, pos, aft, none⟩ F h := by
    unfold doOp
    rw [hw]
    rfl
  rw [e]
  exact e1

theorem doOp_skip {call : CallF} {j : Nat} {want b : Bool} {tg : Tmp} (hj : guardOf ops j = some tg) (hb : F.get tg = some (.bool b)) (hbw : eqB b want = false) : doOp P G call ops ⟨d, op, ty, pos, aft, some (j, want)⟩ F h = some (.tup [], h) := by
  have hw : wantedA ops F ⟨d, op, ty, pos, aft, some (j, want)⟩ = some false := by
    unfold guardOf at hj
    unfold wantedA
    dsimp only
    split at hj
    · cases hj
    · rename_i o ho
      rw [ho]
      dsimp only
      rw [hj]
      dsimp only
      rw [hb]
      dsimp only
      rw [hbw]
  unfold doOp
  rw [hw]

/-- Which way a guard goes. -/
theorem split {l : List Oper} {tg : Tmp} {b : Bool} (hb : L.get tg = some (.bool b)) (k1 : b = true → Rn P O G N ops l (.cons tg (.bool true) L) h Q) (k0 : b = false → Rn P O G N ops l (.cons tg (.bool false) L) h Q) : Rn P O G N ops l L h Q := fun F hF => by
  cases b with
  | true => exact k1 rfl F (hF.refine hb)
  | false => exact k0 rfl F (hF.refine hb)

/-- Guarded by what was skipped itself. -/
theorem guardS {j : Nat} {want : Bool} {tg : Tmp} {l : List AV} (hj : guardOf ops j = some tg) (hb : L.get tg = some (.tup l)) (hd : okD N d = true) (k0 : Rn P O G N ops r (putL L d (.tup [])) h Q) :
    Rn P O G N ops (⟨d, op, ty, pos, aft, some (j, want)⟩ :: r) L h Q := fun F hF => by
  obtain ⟨F', hF'⟩ := put_ok hd F (.tup [])
  obtain ⟨n, F1, h2, L1, e1, e2, e3⟩ := k0 F' (hF.put hF')
  refine ⟨n, F1, h2, L1, ?_, e2, e3⟩
  have hw : wantedA ops F ⟨d, op, ty, pos, aft, some (j, want)⟩ = some false := by
    have hget := hF _ _ hb
    unfold guardOf at hj
    unfold wantedA
    dsimp only
    split at hj
    · cases hj
    · rename_i o ho
      rw [ho]
      dsimp only
      rw [hj]
      dsimp only
      rw [hget]
  have e : doOp P G (callA P O G n) ops ⟨d, op, ty, pos, aft, some (j, want)⟩ F h = some (.tup [], h) := by
    unfold doOp
    rw [hw]
  rw [runOps_cons, e]
  dsimp only
  rw [hF']
  exact e1

theorem guardF {j : Nat} {want b : Bool} {tg : Tmp} (hj : guardOf ops j = some tg) (hb : L.get tg = some (.bool b)) (hbw : eqB b want = false) (hd : okD N d = true) (k0 : Rn P O G N ops r (putL L d (.tup [])) h Q) :
    Rn P O G N ops (⟨d, op, ty, pos, aft, some (j, want)⟩ :: r) L h Q := fun F hF => by
  obtain ⟨F', hF'⟩ := put_ok hd F (.tup [])
  obtain ⟨n, F1, h2, L1, e1, e2, e3⟩ := k0 F' (hF.put hF')
  refine ⟨n, F1, h2, L1, ?_, e2, e3⟩
  rw [runOps_cons, doOp_skip hj (hF _ _ hb) hbw]
  dsimp only
  rw [hF']
  exact e1

theorem mono {l : List Oper} {Q' : LF → AH → Prop} (hr : Rn P O G N ops l L h Q) (hQ : ∀ L h, Q L h → Q' L h) : Rn P O G N ops l L h Q' := fun F hF =>
  let ⟨n, F1, h1, L1, k1, k2, k3⟩ := hr F hF
  ⟨n, F1, h1, L1, k1, k2, hQ _ _ k3⟩
end Rn

/-! ### Code -/

/-- Of the slots, some that are kept. -/
def Sub (K : Nat) : LF → LF → Prop
  | .nil, _ => True
  | .cons t a r, L => (bit K t = true ∧ L.get t = some a) ∧ Sub K r L

theorem Sub.get : ∀ {L2 L : LF}, Sub K L2 L → ∀ t a, L2.get t = some a → bit K t = true ∧ L.get t = some a
  | .nil, L, _, t, a, h => by cases h
  | .cons u b r, L, hs, t, a, h => by
    rw [LF.get_cons] at h
    split at h
    · rename_i e; cases h; subst e; exact hs.1
    · exact Sub.get hs.2 t a h

/-- The same without a mask. -/
def Sub' : LF → LF → Prop
  | .nil, _ => True
  | .cons t a r, L => L.get t = some a ∧ Sub' r L

theorem Sub'.has : ∀ {L2 L : LF}, Sub' L2 L → Has F L → Has F L2
  | .nil, L, _, hF => fun t a h => by cases h
  | .cons u b r, L, hs, hF => fun t a h => by
    rw [LF.get_cons] at h
    split at h
    · rename_i e; cases h; subst e; exact hF _ _ hs.1
    · exact Sub'.has hs.2 hF t a h

theorem flush_keep {ops : List Oper} {F₀ F1 : Fr} (hw : Wrote ops F₀ F1) {t : Nat} (ht : bit K t = true) : (F1.flush (keeps K ops)).get t = F1.get t := by
  have e : (F1.flush (keeps K ops)).get t = (keepL F1.loc (keeps K ops) F1.far).get t := rfl
  rw [e, get_keepL]
  unfold Fr.get
  cases hx : lookL F1.loc t with
  | none => simp
  | some x => rw [if_pos (mem_keeps.2 ⟨ht, hw.2 t x hx⟩)]

def EvL (P : Program) (O : CallF) (G N K : Nat) (c : Code) (L : LF) (h : AH) (R : Ex → LF → AH → Prop) : Prop :=
  ∀ F, F.loc = [] → Has F L → ∃ n e F1 h1 L1, exec P O G n c N K F h = some (e, F1, h1) ∧ F1.loc = [] ∧ Has F1 L1 ∧ R e L1 h1

def thenL (S : LF → AH → Prop) (R : Ex → LF → AH → Prop) : Ex → LF → AH → Prop
  | .normal, L, h => S L h
  | e, L, h => R e L h

def blockL (id : Nat) (R : Ex → LF → AH → Prop) : Ex → LF → AH → Prop
  | .exit i, L, h => if i = id then R .normal L h else R (.exit i) L h
  | e, L, h => R e L h

theorem blockL_normal {id : Nat} {R : Ex → LF → AH → Prop} (hR : R .normal L h) : blockL id R .normal L h := hR
theorem blockL_ret {id : Nat} {R : Ex → LF → AH → Prop} (hR : R .ret L h) : blockL id R .ret L h := hR
theorem thenL_normal {S : LF → AH → Prop} {R : Ex → LF → AH → Prop} (hS : S L h) : thenL S R .normal L h := hS
theorem thenL_ret {S : LF → AH → Prop} {R : Ex → LF → AH → Prop} (hR : R .ret L h) : thenL S R .ret L h := hR
theorem thenL_exit {S : LF → AH → Prop} {R : Ex → LF → AH → Prop} {i : Nat} (hR : R (.exit i) L h) : thenL S R (.exit i) L h := hR
theorem blockL_exit {id : Nat} {R : Ex → LF → AH → Prop} (hR : R .normal L h) : blockL id R (.exit id) L h := by unfold blockL; simpa using hR
theorem blockL_other {id i : Nat} {R : Ex → LF → AH → Prop} (hi : Nat.beq i id = false) (hR : R (.exit i) L h) : blockL id R (.exit i) L h := by
  show (if i = id then R .normal L h else R (.exit i) L h)
  rw [if_neg (Nat.ne_of_beq_eq_false hi)]; exact hR

namespace EvL
variable {R R' : Ex → LF → AH → Prop}

theorem mono {c : Code} (he : EvL P O G N K c L h R) (hR : ∀ e L h, R e L h → R' e L h) : EvL P O G N K c L h R' := fun F hl hF =>
  let ⟨n, e, F1, h1, L1, k1, k2, k3, k4⟩ := he F hl hF
  ⟨n, e, F1, h1, L1, k1, k2, k3, hR _ _ _ k4⟩

theorem weaken {c : Code} (L2 : LF) (hs : Sub' L2 L) (he : EvL P O G N K c L2 h R) : EvL P O G N K c L h R := fun F hl hF => he F hl (hs.has hF)

theorem skip (hR : R .normal L h) : EvL P O G N K .skip L h R := fun F hl hF => ⟨1, _, _, _, L, rfl, hl, hF, hR⟩
theorem label {l : Nat} (hR : R .normal L h) : EvL P O G N K (.label l) L h R := fun F hl hF => ⟨1, _, _, _, L, rfl, hl, hF, hR⟩
theorem exit {id : Nat} (hR : R (.exit id) L h) : EvL P O G N K (.exit id) L h R := fun F hl hF => ⟨1, _, _, _, L, rfl, hl, hF, hR⟩
theorem ret (hR : R .ret L h) : EvL P O G N K .ret L h R := fun F hl hF => ⟨1, _, _, _, L, rfl, hl, hF, hR⟩

theorem seq {a b : Code} (ha : EvL P O G N K a L h (thenL (fun L h => EvL P O G N K b L h R) R)) : EvL P O G N K (.seq a b) L h R := fun F hl hF => by
  obtain ⟨n, e, F1, h1, L1, he, hl1, hF1, hr⟩ := ha F hl hF
  cases e with
  | normal =>
    obtain ⟨m, e2, F2, h2, L2, he2, hl2, hF2, hr2⟩ := hr F1 hl1 hF1
    refine ⟨max n m + 1, e2, F2, h2, L2, ?_, hl2, hF2, hr2⟩
    rw [exec_succ]
    dsimp only
    rw [exec_mono (Nat.le_max_left n m) _ _ _ _ _ _ he]
    exact exec_mono (Nat.le_max_right n m) _ _ _ _ _ _ he2
  | exit i => exact ⟨n + 1, _, F1, h1, L1, by rw [exec_succ]; dsimp only; rw [he], hl1, hF1, hr⟩
  | ret => exact ⟨n + 1, _, F1, h1, L1, by rw [exec_succ]; dsimp only; rw [he], hl1, hF1, hr⟩
  | goto l => exact ⟨n + 1, _, F1, h1, L1, by rw [exec_succ]; dsimp only; rw [he], hl1, hF1, hr⟩

theorem cond {x : Operand} {t : Bool} {a b : Code} (hx : evalL G L x = some (.bool t)) (h1 : t = true → EvL P O G N K a L h R) (h0 : t = false → EvL P O G N K b L h R) : EvL P O G N K (.cond x a b) L h R := fun F hl hF => by
  have hx' := hF.eval hx
  cases t with
  | true =>
    obtain ⟨n, e, F1, h2, L1, he, k1, k2, k3⟩ := h1 rfl F hl hF
    refine ⟨n + 1, e, F1, h2, L1, ?_, k1, k2, k3⟩
    rw [exec_succ]; dsimp only; rw [hx']; exact he
  | false =>
    obtain ⟨n, e, F1, h2, L1, he, k1, k2, k3⟩ := h0 rfl F hl hF
    refine ⟨n + 1, e, F1, h2, L1, ?_, k1, k2, k3⟩
    rw [exec_succ]; dsimp only; rw [hx']; exact he

theorem condT {x : Operand} {a b : Code} (hx : evalL G L x = some (.bool true)) (h1 : EvL P O G N K a L h R) : EvL P O G N K (.cond x a b) L h R := cond hx (fun _ => h1) (fun h => by cases h)
theorem condF {x : Operand} {a b : Code} (hx : evalL G L x = some (.bool false)) (h0 : EvL P O G N K b L h R) : EvL P O G N K (.cond x a b) L h R := cond hx (fun h => by cases h) (fun _ => h0)

/-- With what holds in between. -/
theorem seqQ {a b : Code} (Q : LF → AH → Prop) (ha : EvL P O G N K a L h (thenL Q R)) (hb : ∀ L h, Q L h → EvL P O G N K b L h R) : EvL P O G N K (.seq a b) L h R :=
  seq (ha.mono fun e L h hr => by
    cases e with
    | normal => exact hb _ _ hr
    | _ => exact hr)

theorem block {id : Nat} {b : Code} (hb : EvL P O G N K b L h (blockL id R)) : EvL P O G N K (.block id b) L h R := fun F hl hF => by
  obtain ⟨n, e, F1, h1, L1, he, k1, k2, hr⟩ := hb F hl hF
  cases e with
  | exit i =>
    by_cases hi : i = id
    · subst hi
      refine ⟨n + 1, .normal, F1, h1, L1, ?_, k1, k2, by simpa [blockL] using hr⟩
      rw [exec_succ]; dsimp only; rw [he]; simp
    · refine ⟨n + 1, .exit i, F1, h1, L1, ?_, k1, k2, by simpa [blockL, hi] using hr⟩
      rw [exec_succ]; dsimp only; rw [he]
      have : Nat.beq i id = false := by rw [← Bool.not_eq_true, Nat.beq_eq]; exact hi
      dsimp only; rw [this]
  | normal => exact ⟨n + 1, _, F1, h1, L1, by rw [exec_succ]; dsimp only; rw [he], k1, k2, hr⟩
  | ret => exact ⟨n + 1, _, F1, h1, L1, by rw [exec_succ]; dsimp only; rw [he], k1, k2, hr⟩
  | goto l => exact ⟨n + 1, _, F1, h1, L1, by rw [exec_succ]; dsimp only; rw [he], k1, k2, hr⟩

theorem loop1 {b : Code} (hb : EvL P O G N K b L h (thenL (fun L h => EvL P O G N K (.loop b) L h R) R)) : EvL P O G N K (.loop b) L h R := fun F hl hF => by
  obtain ⟨n, e, F1, h1, L1, he, hl1, hF1, hr⟩ := hb F hl hF
  cases e with
  | normal =>
    obtain ⟨m, e2, F2, h2, L2, he2, hl2, hF2, hr2⟩ := hr F1 hl1 hF1
    refine ⟨max n m + 1, e2, F2, h2, L2, ?_, hl2, hF2, hr2⟩
    rw [exec_succ]
    dsimp only
    rw [exec_mono (Nat.le_max_left n m) _ _ _ _ _ _ he]
    exact exec_mono (Nat.le_max_right n m) _ _ _ _ _ _ he2
  | exit i => exact ⟨n + 1, _, F1, h1, L1, by rw [exec_succ]; dsimp only; rw [he], hl1, hF1, hr⟩
  | ret => exact ⟨n + 1, _, F1, h1, L1, by rw [exec_succ]; dsimp only; rw [he], hl1, hF1, hr⟩
  | goto l => exact ⟨n + 1, _, F1, h1, L1, by rw [exec_succ]; dsimp only; rw [he], hl1, hF1, hr⟩

/-- A loop: what holds at its head, with a number that falls. -/
theorem loop {b : Code} (I : Nat → LF → AH → Prop) {m : Nat} (h0 : I m L h) (hround : ∀ m L h, I m L h → EvL P O G N K b L h (thenL (fun L h => ∃ m', m' < m ∧ I m' L h) R)) : EvL P O G N K (.loop b) L h R := by
  induction m using Nat.strongRecOn generalizing L h with
  | _ m ih =>
    refine loop1 ((hround m L h h0).mono fun e L1 h1 hr => ?_)
    cases e with
    | normal => obtain ⟨m', hm, hI'⟩ := hr; exact ih m' hm hI'
    | _ => exact hr

theorem region {id : Nat} {ops : Array Oper} (hr : Rn P O G N ops.toList ops.toList L h (fun L1 h1 => ∃ L2, Sub K L2 L1 ∧ R .normal L2 h1)) : EvL P O G N K (.region id ops false) L h R := fun F hl hF => by
  obtain ⟨n, F1, h1, L1, k1, k2, L2, k3, k4⟩ := hr F hF
  have hw := runOps_wrote k1 (F₀ := F) ⟨rfl, fun t x hx => by rw [hl] at hx; cases hx⟩ (fun t x hx => by rw [hl] at hx; cases hx) (fun o ho => ho)
  refine ⟨n + 1, .normal, F1.flush (keeps K ops.toList), h1, L2, ?_, rfl, ?_, k4⟩
  · rw [exec_succ]; dsimp only; rw [k1]; rfl
  · intro t a ht
    obtain ⟨g1, g2⟩ := Sub.get k3 t a ht
    rw [flush_keep hw.1 g1]
    exact k2 t a g2
end EvL

theorem Rn.done {ops : List Oper} {R : Ex → LF → AH → Prop} (L2 : LF) (hs : Sub K L2 L) (hR : R .normal L2 h) : Rn P O G N ops [] L h (fun L1 h1 => ∃ L2, Sub K L2 L1 ∧ R .normal L2 h1) :=
  Rn.nil ⟨L2, hs, hR⟩

/-! ### Calls -/

def initL : List AV → Nat → LF
  | [], _ => .nil
  | a :: r, i => .cons i a (initL r (i + 1))

theorem get_initL : ∀ (l : List AV) (i t : Nat), (initL l i).get t = if i ≤ t then l[t - i]? else none
  | [], i, t => by simp [initL, LF.get]
  | a :: r, i, t => by
    unfold initL
    rw [LF.get_cons, get_initL r]
    by_cases h : t = i
    · subst h; simp
    · rw [if_neg h]
      by_cases h2 : i ≤ t
      · rw [if_pos h2, if_pos (by omega)]
        have : t - i = (t - (i + 1)) + 1 := by omega
        rw [this]; simp
      · rw [if_neg h2, if_neg (by omega)]

theorem get_initB {K : Nat} : ∀ (l : List AV) (i : Nat) (M : PM AV) (t : Nat), bit K t = true → (initA K l i M).get t = if i ≤ t ∧ t < i + l.length then l[t - i]? else M.get t
  | [], i, M, t, ht => by
    have : ¬ (i ≤ t ∧ t < i + ([] : List AV).length) := by simp only [List.length_nil]; omega
    rw [if_neg this]; rfl
  | a :: r, i, M, t, ht => by
    unfold initA
    have e : i.succ = i + 1 := rfl
    split
    · rw [get_initB r _ _ t ht, PM.get_set]
      by_cases h : t = i
      · subst h; rw [if_neg (by omega), if_pos rfl, if_pos (by simp)]; simp
      · by_cases h2 : i ≤ t ∧ t < i + (r.length + 1)
        · rw [if_pos (by omega), if_pos (by simpa using h2)]
          have : t - i = (t - (i + 1)) + 1 := by omega
          rw [this]; simp
        · rw [if_neg (by omega), if_neg h, if_neg (by simpa using h2)]
    · rename_i hb
      rw [get_initB r _ _ t ht]
      by_cases h : t = i
      · subst h; rw [ht] at hb; cases hb
      · by_cases h2 : i ≤ t ∧ t < i + (r.length + 1)
        · rw [if_pos (by omega), if_pos (by simpa using h2)]
          have : t - i = (t - (i + 1)) + 1 := by omega
          rw [this]; simp
        · rw [if_neg (by omega), if_neg (by simpa using h2)]

def resL (P : Program) (L : LF) (h : AH) : ResultVar → Option AV
  | .tmp t => L.get t
  | .cell a t => match L.get a with
    | some x => loadA P t x h
    | none => none

def resLs (P : Program) (L : LF) (h : AH) : List ResultVar → Option (List AV)
  | [] => some []
  | x :: r => match resL P L h x with
    | some a => match resLs P L h r with
      | some l => some (a :: l)
      | none => none
    | none => none

theorem Has.res (hF : Has F L) {x : ResultVar} {a : AV} (hx : resL P L h x = some a) : resultA P F h x = some a := by
  cases x with
  | tmp t => exact hF t a hx
  | cell b t =>
    unfold resL at hx
    dsimp only at hx
    split at hx
    · rename_i y hy
      unfold resultA
      dsimp only
      rw [hF _ _ hy]
      exact hx
    · cases hx

theorem Has.ress (hF : Has F L) : ∀ {l : List ResultVar} {as : List AV}, resLs P L h l = some as → resultsA P F h l = some as
  | [], as, h => h
  | x :: r, as, h => by
    unfold resLs at h
    split at h <;> try cases h
    rename_i a ha
    split at h <;> cases h
    rename_i l hl
    unfold resultsA
    rw [hF.res ha, hF.ress hl]

def finL (l : List AV) : AV :=
  match l with
  | [a] => a
  | l => .tup l

/-- How a body ends: with results of which Q holds. -/
def endL (P : Program) (rs : List ResultVar) (Q : AV → AH → Prop) : Ex → LF → AH → Prop := fun e L h => (e = .normal ∨ e = .ret) ∧ ∃ l, resLs P L h rs = some l ∧ Q (finL l) h

theorem endL_ret {rs : List ResultVar} {Q : AV → AH → Prop} {l : List AV} (hl : resLs P L h rs = some l) (hQ : Q (finL l) h) : endL P rs Q .ret L h := ⟨.inr rfl, l, hl, hQ⟩
theorem endL_normal {rs : List ResultVar} {Q : AV → AH → Prop} {l : List AV} (hl : resLs P L h rs = some l) (hQ : Q (finL l) h) : endL P rs Q .normal L h := ⟨.inl rfl, l, hl, hQ⟩

/-- A call, out of a symbolic run of the body. -/
theorem Cl.intro {f : FuncId} {fn : Func} {c : Code} {args : List AV} {Q : AV → AH → Prop} {rs : List ResultVar} (hO : O f args h = none) (hf : P.funcs[f]? = some fn) (hb : fn.body = some c) (hrs : fn.results.toList = rs)
    {k : Nat} (hlen : args.length = k) (hle : Nat.ble k fn.ntmps = true) (hN : fn.ntmps = N) (hK : keepMask fn k = K) (L : LF) (hL : Sub K L (initL args 0)) (hev : EvL P O G N K c L h (endL P rs Q)) : Cl P O G f args h Q := by
  subst hlen
  have hF : Has ⟨[], initA K args 0 .e⟩ L := by
    intro t a ht
    obtain ⟨h1, h2⟩ := Sub.get hL t a ht
    show (initA K args 0 .e).get t = some a
    rw [get_initB args 0 _ t h1]
    rw [get_initL] at h2
    simp at h2
    have hlt : t < args.length := by
      by_cases hlt : t < args.length
      · exact hlt
      · rw [List.getElem?_eq_none (by omega)] at h2; cases h2
    rw [if_pos (by omega)]
    simpa using h2
  obtain ⟨n, e, F1, h1, L1, he, _, hF1, hor, l, hl, hQ⟩ := hev _ rfl hF
  have hfin : finishA P fn F1 h1 = some (finL l, h1) := by
    unfold finishA
    rw [hrs, hF1.ress hl]
    unfold finL
    cases l with
    | nil => rfl
    | cons a r => cases r <;> rfl
  refine ⟨n, finL l, h1, ?_, hQ⟩
  unfold callA callW
  rw [hO]
  dsimp only
  unfold callF
  rw [hf]
  dsimp only
  rw [hb]
  dsimp only
  unfold callB
  rw [hle]
  dsimp only
  rw [hK, hN, he]
  rcases hor with rfl | rfl
  · exact hfin
  · exact hfin
end
end
end Go.Proofs.Ytllldiokcnheiaa.Ab

namespace Go.Proofs.Ytllldiokcnheiaa.Ab
noncomputable section
section
variable {P : Program} {O : CallF} {G N K : Nat} {h h1 h' : AH} {M : Nat}

structure WF (h : AH) : Prop where
  pos : 0 < h.next
  lt : ∀ b B, h.at b = some B → b < h.next
  famlt : ∀ b cs f, h.at b = some (.cells cs f) → f < h.next
  fams : ∀ b cs f, h.at b = some (.cells cs f) → f ≠ 0 → ∃ l, h.fams.get f = some l ∧ b ∈ l
  mem : ∀ f l m, h.fams.get f = some l → m ∈ l → f < h.next ∧ m < h.next ∧ ∀ B, h.at m = some B → B.fam? = some f

/-- To whom a block belongs. -/
def own (b : Nat) : Blk → Nat
  | .cells _ f => f
  | _ => b

/-- What belongs to names below M stands as it stood. -/
structure KeepB (M : Nat) (h h' : AH) : Prop where
  next : h.next ≤ h'.next
  keep : ∀ b B, h.at b = some B → own b B < M → h'.at b = some B
  wf : WF h'

theorem KeepB.refl (hw : WF h) : KeepB M h h := ⟨Nat.le_refl _, fun _ _ h _ => h, hw⟩
theorem KeepB.trans {h2 : AH} (a : KeepB M h h1) (b : KeepB M h1 h2) : KeepB M h h2 := ⟨Nat.le_trans a.next b.next, fun c B hc ho => b.keep c B (a.keep c B hc ho) ho, b.wf⟩
theorem WF.own_lt (hw : WF h) {b : Nat} {B : Blk} (hb : h.at b = some B) : own b B < h.next := by
  cases B with
  | cells cs f => exact hw.famlt _ _ _ hb
  | map es k => exact hw.lt _ _ hb
  | it s p => exact hw.lt _ _ hb

/-- All that was there stands as it stood. -/
structure Kept (h h' : AH) : Prop where
  next : h.next ≤ h'.next
  keep : Keeps h h'
  wf : WF h'

theorem Kept.refl (hw : WF h) : Kept h h := ⟨Nat.le_refl _, fun _ _ h => h, hw⟩
theorem Kept.trans {h2 : AH} (a : Kept h h1) (b : Kept h1 h2) : Kept h h2 := ⟨Nat.le_trans a.next b.next, a.keep.trans b.keep, b.wf⟩
theorem Kept.keepB (a : Kept h h1) : KeepB M h h1 := ⟨a.next, fun b B hb _ => a.keep b B hb, a.wf⟩
theorem KeepB.kept (hw : WF h) (a : KeepB h.next h h1) : Kept h h1 := ⟨a.next, fun b B hb => a.keep b B hb (hw.own_lt hb), a.wf⟩

/-! ### New blocks -/

theorem Kept.new (hw : WF h) (cs : List AV) : Kept h (h.new cs) := by
  have hne : ∀ {b B}, h.at b = some B → b ≠ h.next := fun hb e => by have := hw.lt _ _ hb; omega
  refine ⟨Nat.le_succ _, fun b B hb => ?_, ⟨Nat.succ_pos _, ?_, ?_, ?_, ?_⟩⟩
  · rw [AH.at_new, if_neg (hne hb)]; exact hb
  · intro b B hb
    rw [AH.at_new] at hb
    show b < h.next + 1
    split at hb
    · omega
    · have := hw.lt _ _ hb; omega
  · intro b cs' f hb
    rw [AH.at_new] at hb
    show f < h.next + 1
    split at hb
    · cases hb; omega
    · have := hw.famlt _ _ _ hb; omega
  · intro b cs' f hb hf
    rw [AH.at_new] at hb
    show ∃ l, (h.fams.set h.next [h.next]).get f = some l ∧ b ∈ l
    rw [PM.get_set]
    split at hb
    · cases hb; exact ⟨_, if_pos rfl, by simp_all⟩
    · have := hw.famlt _ _ _ hb
      rw [if_neg (by omega)]
      exact hw.fams _ _ _ hb hf
  · intro f l m hl hm
    have hl' : (h.fams.set h.next [h.next]).get f = some l := hl
    rw [PM.get_set] at hl'
    show f < h.next + 1 ∧ m < h.next + 1 ∧ _
    split at hl'
    · cases hl'
      simp at hm
      subst hm
      rename_i e; subst e
      refine ⟨by omega, by omega, fun B hB => ?_⟩
      rw [AH.at_new, if_pos rfl] at hB
      cases hB; rfl
    · obtain ⟨h1, h2, h3⟩ := hw.mem _ _ _ hl' hm
      refine ⟨by omega, by omega, fun B hB => ?_⟩
      rw [AH.at_new, if_neg (by omega)] at hB
      exact h3 B hB

theorem Kept.newMap (hw : WF h) (es : List (AV × AV × Nat)) (k : Nat) : Kept h (h.newObj (.map es k)) := by
  have hne : ∀ {b B}, h.at b = some B → b ≠ h.next := fun hb e => by have := hw.lt _ _ hb; omega
  refine ⟨Nat.le_succ _, fun b B hb => ?_, ⟨Nat.succ_pos _, ?_, ?_, ?_, ?_⟩⟩
  · rw [AH.at_newObj, if_neg (hne hb)]; exact hb
  · intro b B hb
    rw [AH.at_newObj] at hb
    show b < h.next + 1
    split at hb
    · omega
    · have := hw.lt _ _ hb; omega
  · intro b cs' f hb
    rw [AH.at_newObj] at hb
    show f < h.next + 1
    split at hb
    · cases hb
    · have := hw.famlt _ _ _ hb; omega
  · intro b cs' f hb hf
    rw [AH.at_newObj] at hb
    split at hb
    · cases hb
    · exact hw.fams _ _ _ hb hf
  · intro f l m hl hm
    obtain ⟨h1, h2, h3⟩ := hw.mem _ _ _ hl hm
    refine ⟨Nat.lt_succ_of_lt h1, Nat.lt_succ_of_lt h2, fun B hB => ?_⟩
    rw [AH.at_newObj, if_neg (by omega)] at hB
    exact h3 B hB

theorem at_new_self (h : AH) (cs : List AV) : (h.new cs).at h.next = some (.cells cs h.next) := by rw [AH.at_new, if_pos rfl]

/-! ### Stores -/

theorem storeL_own (hw : WF h) {b off f : Nat} {bs vs : List AV} (hb : h.at b = some (.cells bs f)) (hf : M ≤ f) (hM : 0 < M) (hle : off + vs.length ≤ bs.length) (hfl : allFlat vs = true) :
    ∃ h', h.storeL b off vs = some h' ∧ KeepB M h h' ∧ h'.at b = some (.cells (setR bs off vs) f) ∧ h'.next = h.next ∧
      (∀ c C, h.at c = some C → C.fam? ≠ some f → h'.at c = some C) ∧ (∀ c C, c ≠ b → h'.at c = some C → h.at c = some C ∧ C.fam? ≠ some f) := by
  obtain ⟨l, hl, hbl⟩ := hw.fams _ _ _ hb (by omega)
  have e : h.storeL b off vs = some ⟨(kills b l h.blocks).set b (.cells (setR bs off vs) f), h.fams.set f [b], h.next⟩ := by
    unfold AH.storeL
    rw [hb]
    dsimp only
    rw [hl]
    dsimp only
    have h0 : Nat.beq f 0 = false := by rw [← Bool.not_eq_true, Nat.beq_eq]; omega
    rw [h0]
    dsimp only
    rw [Nat.ble_eq_true_of_le hle]
    dsimp only
    rw [hfl]
  have hat : ∀ c, AH.at ⟨(kills b l h.blocks).set b (.cells (setR bs off vs) f), h.fams.set f [b], h.next⟩ c = if c = b then some (.cells (setR bs off vs) f) else if c ∈ l then none else h.at c := by
    intro c
    show ((kills b l h.blocks).set b _).get c = _
    rw [PM.get_set]
    by_cases hc : c = b
    · rw [if_pos hc, if_pos hc]
    · rw [if_neg hc, if_neg hc, get_kills]
      by_cases hcl : c ∈ l
      · rw [if_pos ⟨hcl, hc⟩, if_pos hcl]
      · rw [if_neg (fun h => hcl h.1), if_neg hcl]; rfl
  have hfr : ∀ c C, h.at c = some C → C.fam? ≠ some f → AH.at ⟨(kills b l h.blocks).set b (.cells (setR bs off vs) f), h.fams.set f [b], h.next⟩ c = some C := by
    intro c C hc hC
    rw [hat]
    have h1 : c ≠ b := fun e => by subst e; rw [hb] at hc; cases hc; exact hC rfl
    have h2 : c ∉ l := fun hm => hC ((hw.mem _ _ _ hl hm).2.2 C hc)
    rw [if_neg h1, if_neg h2]; exact hc
  have hback : ∀ c C, c ≠ b → AH.at ⟨(kills b l h.blocks).set b (.cells (setR bs off vs) f), h.fams.set f [b], h.next⟩ c = some C → h.at c = some C ∧ C.fam? ≠ some f := by
    intro c C hcb hc
    rw [hat, if_neg hcb] at hc
    split at hc
    · cases hc
    · rename_i hcl
      refine ⟨hc, fun hC => ?_⟩
      cases C with
      | cells cs g =>
        cases hC
        obtain ⟨l', hl', hm⟩ := hw.fams _ _ _ hc (by omega)
        rw [hl] at hl'; cases hl'
        exact hcl hm
      | map es k => cases hC
      | it s p => cases hC
  refine ⟨_, e, ⟨Nat.le_refl _, fun c C hc ho => ?_, ⟨hw.pos, ?_, ?_, ?_, ?_⟩⟩, ?_, rfl, hfr, hback⟩
  · refine hfr c C hc fun hC => ?_
    cases C with
    | cells cs g => cases hC; have : f < M := ho; omega
    | map es k => cases hC
    | it s p => cases hC
  · intro c C hc
    show c < h.next
    by_cases hcb : c = b
    · subst hcb; exact hw.lt _ _ hb
    · exact hw.lt _ _ (hback c C hcb hc).1
  · intro c cs g hc
    show g < h.next
    by_cases hcb : c = b
    · subst hcb; rw [hat, if_pos rfl] at hc; cases hc; exact hw.famlt _ _ _ hb
    · exact hw.famlt _ _ _ (hback c _ hcb hc).1
  · intro c cs g hc hg
    show ∃ l', (h.fams.set f [b]).get g = some l' ∧ c ∈ l'
    rw [PM.get_set]
    by_cases hcb : c = b
    · subst hcb; rw [hat, if_pos rfl] at hc; cases hc; exact ⟨_, if_pos rfl, by simp⟩
    · obtain ⟨k1, k2⟩ := hback c _ hcb hc
      rw [if_neg (fun e => k2 (by subst e; rfl))]
      exact hw.fams _ _ _ k1 hg
  · intro g l' m hl' hm
    have hl2 : (h.fams.set f [b]).get g = some l' := hl'
    rw [PM.get_set] at hl2
    show g < h.next ∧ m < h.next ∧ _
    split at hl2
    · rename_i e1; subst e1; cases hl2
      simp at hm; subst hm
      refine ⟨hw.famlt _ _ _ hb, hw.lt _ _ hb, fun B hB => ?_⟩
      rw [hat, if_pos rfl] at hB; cases hB; rfl
    · rename_i e1
      obtain ⟨k1, k2, k3⟩ := hw.mem _ _ _ hl2 hm
      refine ⟨k1, k2, fun B hB => ?_⟩
      by_cases hmb : m = b
      · subst hmb
        have := k3 _ hb
        cases this; exact absurd rfl e1
      · exact k3 B (hback m B hmb hB).1
  · rw [hat, if_pos rfl]

/-! ### A block of one's own -/

def OBx (M : Nat) (h : AH) (b : Nat) (cs : List AV) : Prop := ∃ f, h.at b = some (.cells cs f) ∧ M ≤ f

theorem OBx.keep {b : Nat} {cs : List AV} (hb : OBx M h b cs) (hk : Keeps h h') : OBx M h' b cs := let ⟨f, h1, h2⟩ := hb; ⟨f, hk _ _ h1, h2⟩
theorem OBx.down {M' : Nat} {b : Nat} {cs : List AV} (hb : OBx M h b cs) (hM : M' ≤ M) : OBx M' h b cs := let ⟨f, h1, h2⟩ := hb; ⟨f, h1, Nat.le_trans hM h2⟩
theorem OBx.new (hM : M ≤ h.next) (cs : List AV) : OBx M (h.new cs) h.next cs := ⟨h.next, at_new_self _ _, hM⟩
theorem OBx.load1 {b off : Nat} {cs : List AV} {t : TypeId} {a : AV} (hb : OBx M h b cs) (ht : shapeA P t = some none) (hi : cs[off]? = some a) : loadA P t (.ptr b off) h = some a := by
  obtain ⟨f, h1, h2⟩ := hb
  unfold loadA
  dsimp only
  rw [ht]
  dsimp only
  unfold AH.load1
  rw [h1]
  exact hi
theorem OBx.loadN {b off n : Nat} {cs : List AV} {t : TypeId} (hb : OBx M h b cs) (ht : shapeA P t = some (some n)) (hi : off + n ≤ cs.length) : loadA P t (.ptr b off) h = some (.agg ((cs.drop off).take n)) := by
  obtain ⟨f, h1, h2⟩ := hb
  unfold loadA
  dsimp only
  rw [ht]
  dsimp only
  unfold AH.loadL
  rw [h1]
  dsimp only
  rw [Nat.ble_eq_true_of_le hi]
theorem OBx.store (hw : WF h) {b off n : Nat} {cs vs : List AV} {t : TypeId} {a : AV} (hb : OBx M h b cs) (hz : szA P t = some n) (ha : cellsA a = vs) (hvs : vs.length = n) (hle : off + n ≤ cs.length) (hfl : allFlat vs = true) (hM : 0 < M) :
    ∃ h', storeA P t (.ptr b off) a h = some h' ∧ KeepB M h h' ∧ OBx M h' b (setR cs off vs) ∧ h'.next = h.next ∧ (∀ c C, h.at c = some C → (∀ f, h.at b = some (.cells cs f) → C.fam? ≠ some f) → h'.at c = some C) := by
  obtain ⟨f, h1, h2⟩ := hb
  obtain ⟨h', k1, k2, k3, k4, k5, k6⟩ := storeL_own (M := M) hw (off := off) (vs := vs) h1 h2 hM (by omega) hfl
  refine ⟨h', ?_, k2, ⟨f, k3, h2⟩, k4, fun c C hC hno => k5 c C hC (hno f h1)⟩
  unfold storeA
  dsimp only
  rw [hz]
  dsimp only
  rw [ha, show Nat.beq vs.length n = true by simp [hvs]]
  exact k1

theorem allocA_of {t : TypeId} {z : AV} {cs : List AV} (hz : zeroA P t = some z) (hc : cellsA z = cs) : allocA P t h = some (.ptr h.next 0, h.new cs) := by unfold allocA; rw [hz]; dsimp only; rw [hc]

/-- A new variable and its first store. -/
theorem alloc_store (hw : WF h) {n : Nat} {zs vs : List AV} {t : TypeId} {a : AV} (hz : szA P t = some n) (hzl : zs.length = n) (ha : cellsA a = vs) (hvs : vs.length = n) (hfl : allFlat vs = true) :
    ∃ h2, storeA P t (.ptr h.next 0) a (h.new zs) = some h2 ∧ Kept h h2 ∧ OBx h.next h2 h.next vs ∧ h2.next = h.next + 1 := by
  have hk := Kept.new hw zs
  obtain ⟨h2, k1, k2, k3, k4, k5⟩ := OBx.store (M := h.next) (P := P) (a := a) (vs := vs) (off := 0) hk.wf (OBx.new (Nat.le_refl _) zs) hz ha hvs (by omega) hfl hw.pos
  refine ⟨h2, k1, KeepB.kept hw (hk.keepB.trans k2), ?_, k4⟩
  have e : setR zs 0 vs = vs := by unfold setR; rw [List.drop_of_length_le (by omega)]; simp
  rwa [e] at k3

theorem arr_addr {t e : TypeId} {k : IntKind} {len sz b o : Nat} (i : Nat) (ht : P.underlying t = some (.array len e)) (hz : szA P e = some sz) (hi : i < len) : indexAddrA P t (.ptr b o) (.int k (i : Int)) = some (.ptr b (o + i * sz)) := by
  unfold indexAddrA
  show (match some i with | none => none | some i => _) = _
  dsimp only
  rw [ht]
  dsimp only
  rw [hz]
  dsimp only
  rw [Nat.ble_eq_true_of_le (show i + 1 ≤ len from hi)]

/-! ### Growth -/

theorem cull_get (n : Nat) : ∀ (l : List Nat) (t : PM Blk) (j : Nat), j ∉ l → (cull n l t).1.get j = t.get j
  | [], t, j, _ => rfl
  | m :: r, t, j, hj => by
    have h1 : j ≠ m := fun e => hj (by simp [e])
    have h2 : j ∉ r := fun e => hj (by simp [e])
    unfold cull
    split
    · split
      · exact cull_get n r t j h2
      · rw [cull_get n r _ j h2, PM.get_put, if_neg h1]
    · exact cull_get n r t j h2

theorem cull_sub (n : Nat) : ∀ (l : List Nat) (t : PM Blk), ∀ j ∈ (cull n l t).2, j ∈ l
  | [], t, j, hj => by simp [cull] at hj
  | m :: r, t, j, hj => by
    unfold cull at hj
    split at hj
    · split at hj
      · simp at hj
        rcases hj with rfl | hj
        · simp
        · exact List.mem_cons_of_mem _ (cull_sub n r _ j hj)
      · exact List.mem_cons_of_mem _ (cull_sub n r _ j hj)
    · exact List.mem_cons_of_mem _ (cull_sub n r _ j hj)

theorem grow_own (hw : WF h) {b f n : Nat} {bs cs : List AV} (hb : h.at b = some (.cells bs f)) (hf : M ≤ f) (hM : 0 < M) :
    ∃ h', h.grow b 0 n cs = some h' ∧ KeepB M h h' ∧ h'.at h.next = some (.cells cs f) ∧ (∀ c C, h.at c = some C → C.fam? ≠ some f → h'.at c = some C) := by
  obtain ⟨l, hl, hbl⟩ := hw.fams _ _ _ hb (by omega)
  have hfn := hw.famlt _ _ _ hb
  have e : h.grow b 0 n cs = some ⟨(cull n l h.blocks).1.set h.next (.cells cs f), h.fams.set f (h.next :: (cull n l h.blocks).2), Nat.succ h.next⟩ := by
    unfold AH.grow
    rw [hb]
    dsimp only
    have h0 : Nat.beq f 0 = false := by rw [← Bool.not_eq_true, Nat.beq_eq]; omega
    rw [h0]
    dsimp only
    rw [hl]
  have hat : ∀ c, AH.at ⟨(cull n l h.blocks).1.set h.next (.cells cs f), h.fams.set f (h.next :: (cull n l h.blocks).2), Nat.succ h.next⟩ c = if c = h.next then some (.cells cs f) else (cull n l h.blocks).1.get c := fun c => PM.get_set _ _ _ _
  have hsp := cull_spec n l h.blocks
  have hfr : ∀ c C, h.at c = some C → C.fam? ≠ some f → AH.at ⟨(cull n l h.blocks).1.set h.next (.cells cs f), h.fams.set f (h.next :: (cull n l h.blocks).2), Nat.succ h.next⟩ c = some C := by
    intro c C hc hC
    have h1 := hw.lt _ _ hc
    rw [hat, if_neg (by omega), cull_get]
    · exact hc
    · exact fun hm => hC ((hw.mem _ _ _ hl hm).2.2 C hc)
  refine ⟨_, e, ⟨Nat.le_succ _, fun c C hc ho => ?_, ⟨Nat.succ_pos _, ?_, ?_, ?_, ?_⟩⟩, by rw [hat, if_pos rfl], hfr⟩
  · refine hfr c C hc fun hC => ?_
    cases C with
    | cells cs g => cases hC; have : f < M := ho; omega
    | map es k => cases hC
    | it s p => cases hC
  · intro c C hc
    show c < h.next + 1
    rw [hat] at hc
    split at hc
    · omega
    · have := hw.lt _ _ (hsp.1 _ _ hc); omega
  · intro c cs' g hc
    show g < h.next + 1
    rw [hat] at hc
    split at hc
    · cases hc; omega
    · have := hw.famlt _ _ _ (hsp.1 _ _ hc); omega
  · intro c cs' g hc hg
    show ∃ l', (h.fams.set f (h.next :: (cull n l h.blocks).2)).get g = some l' ∧ c ∈ l'
    rw [PM.get_set]
    rw [hat] at hc
    split at hc
    · rename_i e1; subst e1; cases hc; exact ⟨_, if_pos rfl, by simp⟩
    · by_cases e1 : g = f
      · subst e1
        rw [if_pos rfl]
        obtain ⟨l', hl', hm⟩ := hw.fams _ _ _ (hsp.1 _ _ hc) hg
        rw [hl] at hl'; cases hl'
        exact ⟨_, rfl, List.mem_cons_of_mem _ (hsp.2 _ _ _ hm hc).2⟩
      · rw [if_neg e1]; exact hw.fams _ _ _ (hsp.1 _ _ hc) hg
  · intro g l' m hl' hm
    have hl2 : (h.fams.set f (h.next :: (cull n l h.blocks).2)).get g = some l' := hl'
    rw [PM.get_set] at hl2
    show g < h.next + 1 ∧ m < h.next + 1 ∧ _
    split at hl2
    · rename_i e1; subst e1; cases hl2
      rcases List.mem_cons.1 hm with rfl | hm
      · refine ⟨by omega, by omega, fun B hB => ?_⟩
        rw [hat, if_pos rfl] at hB; cases hB; rfl
      · obtain ⟨k1, k2, k3⟩ := hw.mem _ _ _ hl (cull_sub _ _ _ _ hm)
        refine ⟨by omega, by omega, fun B hB => ?_⟩
        rw [hat, if_neg (by omega)] at hB
        exact k3 B (hsp.1 _ _ hB)
    · obtain ⟨k1, k2, k3⟩ := hw.mem _ _ _ hl2 hm
      refine ⟨by omega, by omega, fun B hB => ?_⟩
      rw [hat, if_neg (by omega)] at hB
      exact k3 B (hsp.1 _ _ hB)

/-! ### Slices -/

/-- A slice of so many elements, with their cells. -/
def Sl (h : AH) (v : AV) (sz n : Nat) (cs : List AV) : Prop :=
  (v = .nils ∧ n = 0 ∧ cs = []) ∨ ∃ b off cap ex bs f, v = .sl b off n cap sz ex ∧ h.at b = some (.cells bs f) ∧ off + n * sz ≤ bs.length ∧ cs = (bs.drop off).take (n * sz) ∧ n ≤ cap

/-- A slice of one's own, from its array's first cell on. -/
def Osl (M : Nat) (h : AH) (v : AV) (sz n : Nat) (cs : List AV) : Prop :=
  (v = .nils ∧ n = 0 ∧ cs = []) ∨ ∃ b cap ex bs f, v = .sl b 0 n cap sz ex ∧ h.at b = some (.cells bs f) ∧ M ≤ f ∧ n * sz ≤ bs.length ∧ cs = bs.take (n * sz) ∧ cap * sz ≤ bs.length ∧ n ≤ cap

theorem Sl.keep {v : AV} {sz n : Nat} {cs : List AV} (hs : Sl h v sz n cs) (hk : Keeps h h') : Sl h' v sz n cs := by
  rcases hs with ⟨rfl, rfl, rfl⟩ | ⟨b, off, cap, ex, bs, f, rfl, hb, hl, rfl, hnc⟩
  · exact .inl ⟨rfl, rfl, rfl⟩
  · exact .inr ⟨b, off, cap, ex, bs, f, rfl, hk _ _ hb, hl, rfl, hnc⟩

/-- What came in stands as long as only one's own is changed. -/
theorem Sl.kb {v : AV} {sz n : Nat} {cs : List AV} (hs : Sl h v sz n cs) (hw : WF h) (hk : KeepB h.next h h') : Sl h' v sz n cs := hs.keep (hk.kept hw).keep

theorem Osl.keep {v : AV} {sz n : Nat} {cs : List AV} (hs : Osl M h v sz n cs) (hk : Keeps h h') : Osl M h' v sz n cs := by
  rcases hs with ⟨rfl, rfl, rfl⟩ | ⟨b, cap, ex, bs, f, rfl, hb, hf, hl, rfl, hc, hnc⟩
  · exact .inl ⟨rfl, rfl, rfl⟩
  · exact .inr ⟨b, cap, ex, bs, f, rfl, hk _ _ hb, hf, hl, rfl, hc, hnc⟩

theorem Osl.down {M' : Nat} {v : AV} {sz n : Nat} {cs : List AV} (hs : Osl M h v sz n cs) (hM : M' ≤ M) : Osl M' h v sz n cs := by
  rcases hs with ⟨rfl, rfl, rfl⟩ | ⟨b, cap, ex, bs, f, rfl, hb, hf, hl, rfl, hc, hnc⟩
  · exact .inl ⟨rfl, rfl, rfl⟩
  · exact .inr ⟨b, cap, ex, bs, f, rfl, hb, by omega, hl, rfl, hc, hnc⟩

theorem Osl.sl {v : AV} {sz n : Nat} {cs : List AV} (hs : Osl M h v sz n cs) : Sl h v sz n cs := by
  rcases hs with ⟨rfl, rfl, rfl⟩ | ⟨b, cap, ex, bs, f, rfl, hb, hf, hl, rfl, hc, hnc⟩
  · exact .inl ⟨rfl, rfl, rfl⟩
  · exact .inr ⟨b, 0, cap, ex, bs, f, rfl, hb, by omega, by simp, hnc⟩

theorem Sl.length {v : AV} {sz n : Nat} {cs : List AV} (hs : Sl h v sz n cs) : cs.length = n * sz := by
  rcases hs with ⟨rfl, rfl, rfl⟩ | ⟨b, off, cap, ex, bs, f, rfl, hb, hl, rfl, hnc⟩
  · simp
  · simp; omega

theorem Sl.lenA {v : AV} {sz n : Nat} {cs : List AV} (hs : Sl h v sz n cs) : Ab.lenA v = some n := by
  rcases hs with ⟨rfl, rfl, rfl⟩ | ⟨b, off, cap, ex, bs, f, rfl, hb, hl, rfl, hnc⟩ <;> rfl

theorem Sl.len {v : AV} {sz n : Nat} {cs : List AV} {t e : TypeId} (hs : Sl h v sz n cs) (ht : P.underlying t = some (.slice e)) : lenOfA P t v h1 = some (.int .i64 (n : Int)) := by
  rcases hs with ⟨rfl, rfl, rfl⟩ | ⟨b, off, cap, ex, bs, f, rfl, hb, hl, rfl, hnc⟩ <;> (unfold lenOfA; rw [ht]; rfl)

theorem Sl.nil (h : AH) (sz : Nat) : Sl h .nils sz 0 [] := .inl ⟨rfl, rfl, rfl⟩
theorem Osl.nil (M : Nat) (h : AH) (sz : Nat) : Osl M h .nils sz 0 [] := .inl ⟨rfl, rfl, rfl⟩

theorem Sl.first {v : AV} {sz n : Nat} {cs : List AV} (hs : Sl h v sz n cs) : firstA sz n v h = some cs := by
  rcases hs with ⟨rfl, rfl, rfl⟩ | ⟨b, off, cap, ex, bs, f, rfl, hb, hl, rfl, hnc⟩
  · rfl
  · unfold firstA
    dsimp only
    rw [show Nat.beq sz sz = true by simp, show Nat.ble n n = true by simp]
    dsimp only
    split
    · rename_i h0
      have : n * sz = 0 := Nat.eq_of_beq_eq_true h0
      rw [this]; simp
    · unfold AH.loadL
      rw [hb]
      dsimp only
      rw [Nat.ble_eq_true_of_le hl]

/-- The address of an element. -/
def addrOf (v : AV) (i : Nat) : AV :=
  match v with
  | .sl b off _ _ sz _ => .ptr b (off + i * sz)
  | _ => .nilp

def addrAt (p : AV) (k : Nat) : AV :=
  match p with
  | .ptr b o => .ptr b (o + k)
  | _ => .nilp

theorem Sl.addr {v : AV} {sz n : Nat} {cs : List AV} {t e : TypeId} {k : IntKind} {i : Nat} (hs : Sl h v sz n cs) (ht : P.underlying t = some (.slice e)) (hz : szA P e = some sz) (hi : i < n) :
    indexAddrA P t v (.int k (i : Int)) = some (addrOf v i) := by
  rcases hs with ⟨rfl, rfl, rfl⟩ | ⟨b, off, cap, ex, bs, f, rfl, hb, hl, rfl, hnc⟩
  · omega
  · unfold indexAddrA
    show (match some i with | none => none | some i => _) = _
    dsimp only
    rw [ht]
    dsimp only
    rw [hz]
    dsimp only
    rw [Nat.ble_eq_true_of_le (show i + 1 ≤ n from hi)]
    rfl

theorem Sl.addrI {v : AV} {sz n : Nat} {cs : List AV} {t e : TypeId} {k : IntKind} {x : Int} (hs : Sl h v sz n cs) (ht : P.underlying t = some (.slice e)) (hz : szA P e = some sz) (h0 : 0 ≤ x) (hi : x < (n : Int)) :
    indexAddrA P t v (.int k x) = some (addrOf v x.toNat) := by
  have := hs.addr (P := P) (k := k) (i := x.toNat) ht hz (by omega)
  rwa [Int.toNat_of_nonneg h0] at this

theorem Sl.cell {v : AV} {n : Nat} {cs : List AV} {t : TypeId} {i : Nat} {a : AV} (hs : Sl h v 1 n cs) (ht : shapeA P t = some none) (hi : cs[i]? = some a) : loadA P t (addrOf v i) h = some a := by
  rcases hs with ⟨rfl, rfl, rfl⟩ | ⟨b, off, cap, ex, bs, f, rfl, hb, hl, rfl, hnc⟩
  · simp at hi
  · unfold loadA addrOf
    dsimp only
    rw [ht]
    dsimp only
    unfold AH.load1
    rw [hb]
    dsimp only
    rw [List.getElem?_take] at hi
    split at hi
    · simpa using hi
    · cases hi

/-- A part of an element. -/
theorem Sl.part {v : AV} {sz n : Nat} {cs : List AV} {t : TypeId} {i j : Nat} {a : AV} (hs : Sl h v sz n cs) (ht : shapeA P t = some none) (hi : cs[i * sz + j]? = some a) : loadA P t (addrAt (addrOf v i) j) h = some a := by
  rcases hs with ⟨rfl, rfl, rfl⟩ | ⟨b, off, cap, ex, bs, f, rfl, hb, hl, rfl, hnc⟩
  · simp at hi
  · unfold loadA addrOf addrAt
    dsimp only
    rw [ht]
    dsimp only
    unfold AH.load1
    rw [hb]
    dsimp only
    rw [List.getElem?_take] at hi
    split at hi
    · rw [List.getElem?_drop] at hi
      rw [← hi]
      congr 1
      omega
    · cases hi

/-- A whole element of some cells. -/
theorem Sl.cells {v : AV} {sz n : Nat} {cs : List AV} {t : TypeId} {i : Nat} (hs : Sl h v sz n cs) (ht : shapeA P t = some (some sz)) (hi : i < n) : loadA P t (addrOf v i) h = some (.agg ((cs.drop (i * sz)).take sz)) := by
  rcases hs with ⟨rfl, rfl, rfl⟩ | ⟨b, off, cap, ex, bs, f, rfl, hb, hl, rfl, hnc⟩
  · omega
  · unfold loadA addrOf
    dsimp only
    rw [ht]
    dsimp only
    have hmul : i * sz + sz ≤ n * sz := by
      have := Nat.mul_le_mul_right sz (show i + 1 ≤ n from hi)
      rw [Nat.add_mul] at this; omega
    unfold AH.loadL
    rw [hb]
    dsimp only
    rw [Nat.ble_eq_true_of_le (show off + i * sz + sz ≤ bs.length by omega)]
    dsimp only
    congr 2
    rw [List.drop_take, List.take_take, List.drop_drop]
    congr 1
    omega

theorem Sl.addr_ptr {v : AV} {sz n : Nat} {cs : List AV} {i : Nat} (hs : Sl h v sz n cs) (hi : i < n) : ∃ b o, addrOf v i = .ptr b o := by
  rcases hs with ⟨rfl, rfl, rfl⟩ | ⟨b, off, cap, ex, bs, f, rfl, hb, hl, rfl, hnc⟩
  · omega
  · exact ⟨_, _, rfl⟩

theorem Sl.solid {v : AV} {sz n : Nat} {cs : List AV} {i : Nat} (hs : Sl h v sz n cs) (hi : i < n) : solidA (addrOf v i) = true := by
  obtain ⟨b, o, e⟩ := hs.addr_ptr hi
  rw [e]; rfl

theorem Sl.addr2 {v : AV} {sz n sz' len : Nat} {cs : List AV} {t e : TypeId} {k : IntKind} {i j : Nat} (hs : Sl h v sz n cs) (hi : i < n) (ht : P.underlying t = some (.array len e)) (hz : szA P e = some sz') (hj : j < len) :
    indexAddrA P t (addrOf v i) (.int k (j : Int)) = some (addrAt (addrOf v i) (j * sz')) := by
  obtain ⟨b, o, e1⟩ := hs.addr_ptr hi
  rw [e1]
  unfold indexAddrA
  show (match some j with | none => none | some i => _) = _
  dsimp only
  rw [ht]
  dsimp only
  rw [hz]
  dsimp only
  rw [Nat.ble_eq_true_of_le (show j + 1 ≤ len from hj)]
  rfl

/-! ### append -/

/-- The family of a slice's array. -/
def famOf (h : AH) (v : AV) : Option Nat :=
  match v with
  | .sl b _ _ _ _ _ => match h.at b with
    | some (.cells _ f) => some f
    | _ => none
  | _ => none

theorem famOf_sl {b o l c s f : Nat} {e : Bool} {bs : List AV} (hb : h.at b = some (.cells bs f)) : famOf h (.sl b o l c s e) = some f := by
  unfold famOf; dsimp only; rw [hb]

/-- What append asks of its types. -/
structure AppT (P : Program) (sT xT : TypeId) (sz : Nat) : Prop where
  ex : ∃ e by_ z, elemA P sT = some e ∧ szA P e = some sz ∧ byA P e = some by_ ∧ Nat.ble by_ 65536 = true ∧ zeroA P e = some z ∧ Nat.beq (cellsA z).length sz = true ∧ allFlat (cellsA z) = true
  x : isInt P xT = some false
  pos : Nat.beq sz 0 = false

theorem take_setR_append {bs new : List AV} {k : Nat} (h : k + new.length ≤ bs.length) : (setR bs k new).take (k + new.length) = bs.take k ++ new := by
  unfold setR
  rw [List.take_append_of_le_length (by simp; omega)]
  rw [List.take_of_length_le (by simp; omega)]

theorem take_setR {bs vs : List AV} {k m : Nat} (h : k + vs.length ≤ m) (hm : m ≤ bs.length) : setR (bs.take m) k vs = (setR bs k vs).take m := by
  unfold setR
  rw [List.take_append, List.take_of_length_le (l := bs.take k ++ vs) (by simp; omega), List.take_take, show min k m = k by omega, List.drop_take]
  congr 2
  simp; omega

theorem Osl.append (hw : WF h) {sT xT : TypeId} {sz n m : Nat} (ht : AppT P sT xT sz) {v x : AV} {cs new : List AV} (hs : Osl M h v sz n cs) (hx : Sl h x sz m new) (hfl : allFlat new = true) (hle : n + m ≤ 1048576) (hM : 0 < M) (hMn : M ≤ h.next) :
    ∃ v' h', appendA P sT xT v x h = some (v', h') ∧ KeepB M h h' ∧ Osl M h' v' sz (n + m) (cs ++ new) ∧ (∀ b o c e, v = .sl b o n c sz e → n + m ≤ c → v' = .sl b o (n + m) c sz e) ∧ (∀ b B, h.at b = some B → (∀ b' o l c s e bs f, v = .sl b' o l c s e → h.at b' = some (.cells bs f) → B.fam? ≠ some f) → h'.at b = some B) ∧ ∀ f, famOf h' v' = some f → famOf h v = some f ∨ h.next ≤ f := by
  obtain ⟨⟨e, by_, z, h1, h2, h3, h4, h5, h6, h7⟩, hxT, hpos⟩ := ht
  have hnew : newA P false e sz x h = some (m, new) := by
    unfold newA
    dsimp only
    rw [hx.lenA]
    dsimp only
    rw [hx.first]
  have hlen := hx.length
  have hsz : sz ≠ 0 := Nat.ne_of_beq_eq_false hpos
  unfold appendA
  rw [h1]
  dsimp only
  rw [h2, h3, hxT]
  dsimp only
  rw [hnew, h4, hpos, h5]
  dsimp only
  rw [h6]
  dsimp only
  rcases hs with ⟨rfl, rfl, rfl⟩ | ⟨b, cap, ex, bs, f, rfl, hb, hf, hl, rfl, hc, hnc⟩
  · dsimp only
    by_cases hm : m = 0
    · subst hm
      have : new = [] := List.eq_nil_of_length_eq_zero (by simpa using hlen)
      subst this
      exact ⟨.nils, h, rfl, .refl hw, .inl ⟨rfl, rfl, rfl⟩, fun _ _ _ _ hv _ => (by cases hv), fun _ _ h _ => h, fun f hf => by cases hf⟩
    · have hm0 : Nat.beq m 0 = false := by rw [← Bool.not_eq_true, Nat.beq_eq]; exact hm
      rw [hm0, Nat.ble_eq_true_of_le (show m ≤ 1048576 by omega)]
      dsimp only
      rw [Nat.zero_add, List.nil_append]
      refine ⟨_, _, rfl, (Kept.new hw new).keepB, .inr ⟨_, _, _, _, _, rfl, at_new_self _ _, hMn, Nat.le_of_eq hlen.symm, ?_, Nat.le_of_eq hlen.symm, Nat.le_refl _⟩, fun _ _ _ _ hv _ => (by cases hv), fun b B hB _ => (Kept.new hw new).keep b B hB, fun f hf => by rw [famOf_sl (at_new_self _ _)] at hf; cases hf; exact .inr (Nat.le_refl _)⟩
      rw [List.take_of_length_le (Nat.le_of_eq hlen)]
  · dsimp only
    rw [show Nat.beq sz sz = true by simp, Nat.ble_eq_true_of_le hle]
    by_cases hm : m = 0
    · subst hm
      have : new = [] := List.eq_nil_of_length_eq_zero (by simpa using hlen)
      subst this
      exact ⟨_, h, rfl, .refl hw, .inr ⟨b, cap, ex, bs, f, rfl, hb, hf, hl, by simp, hc, hnc⟩, fun _ _ _ _ hv _ => (by cases hv; rfl), fun _ _ h _ => h, fun g hg => .inl hg⟩
    · have hm0 : Nat.beq m 0 = false := by rw [← Bool.not_eq_true, Nat.beq_eq]; exact hm
      rw [hm0]
      by_cases hcap : n + m ≤ cap
      · rw [Nat.ble_eq_true_of_le hcap]
        dsimp only
        have hmul : (n + m) * sz ≤ cap * sz := Nat.mul_le_mul_right sz hcap
        rw [Nat.add_mul] at hmul
        obtain ⟨h', k1, k2, k3, k4, k5, k6⟩ := storeL_own (M := M) hw (off := 0 + n * sz) (vs := new) hb hf hM (by omega) hfl
        rw [k1]
        refine ⟨_, _, rfl, k2, .inr ⟨b, cap, ex, _, f, rfl, k3, hf, ?_, ?_, ?_, hcap⟩, fun _ _ _ _ hv _ => (by cases hv; rfl), fun c C hC hno => k5 c C hC (hno _ _ _ _ _ _ _ _ rfl hb), fun g hg => by rw [famOf_sl k3] at hg; rw [famOf_sl hb]; exact .inl hg⟩
        · rw [setR_length (by omega), Nat.add_mul]; omega
        · rw [Nat.add_mul, ← hlen, show 0 + n * sz = n * sz by omega, take_setR_append (by omega)]
        · rw [setR_length (by omega)]; exact hc
      · have hcap0 : Nat.ble (n + m) cap = false := by rw [← Bool.not_eq_true, Nat.ble_eq]; exact hcap
        rw [hcap0]
        have hold : firstA sz n (.sl b 0 n cap sz ex) h = some (bs.take (n * sz)) := by
          have := Sl.first (h := h) (v := .sl b 0 n cap sz ex) (sz := sz) (n := n) (cs := (bs.drop 0).take (n * sz)) (.inr ⟨b, 0, cap, ex, bs, f, rfl, hb, by omega, rfl, hnc⟩)
          simpa using this
        have hll : (bs.take (n * sz) ++ new).length = (n + m) * sz := by simp [hlen, Nat.add_mul]; omega
        cases ex with
        | true =>
          dsimp only
          rw [hold]
          dsimp only
          refine ⟨_, _, rfl, (Kept.new hw _).keepB, .inr ⟨_, _, _, _, _, rfl, at_new_self _ _, hMn, Nat.le_of_eq hll.symm, ?_, Nat.le_of_eq hll.symm, Nat.le_refl _⟩, fun _ _ _ _ hv hle => (by cases hv; exact absurd hle hcap), fun b B hB _ => (Kept.new hw _).keep b B hB, fun f hf => by rw [famOf_sl (at_new_self _ _)] at hf; cases hf; exact .inr (Nat.le_refl _)⟩
          rw [List.take_of_length_le (Nat.le_of_eq hll)]
        | false =>
          dsimp only
          have hld : h.loadL b 0 (n * sz) = some (bs.take (n * sz)) := by
            unfold AH.loadL
            rw [hb]
            dsimp only
            rw [Nat.ble_eq_true_of_le (show 0 + n * sz ≤ bs.length by omega)]
            simp
          rw [hld, hfl]
          dsimp only
          obtain ⟨h', k1, k2, k3, k4⟩ := grow_own (M := M) (n := n * sz) (cs := bs.take (n * sz) ++ new) hw hb hf hM
          rw [k1]
          refine ⟨_, _, rfl, k2, .inr ⟨_, _, _, _, _, rfl, k3, hf, Nat.le_of_eq hll.symm, ?_, Nat.le_of_eq hll.symm, Nat.le_refl _⟩, fun _ _ _ _ hv hle => (by cases hv; exact absurd hle hcap), fun c C hC hno => k4 c C hC (hno _ _ _ _ _ _ _ _ rfl hb), fun g hg => by rw [famOf_sl k3] at hg; rw [famOf_sl hb]; exact .inl hg⟩
          rw [List.take_of_length_le (Nat.le_of_eq hll)]

/-- A store into a slice of one's own. -/
theorem Osl.set (hw : WF h) {sz n : Nat} {v : AV} {cs vs : List AV} {t : TypeId} {i : Nat} {a : AV} (hs : Osl M h v sz n cs) (hi : i < n) (hz : szA P t = some sz) (ha : cellsA a = vs) (hvs : vs.length = sz) (hfl : allFlat vs = true) (hM : 0 < M) :
    ∃ h', storeA P t (addrOf v i) a h = some h' ∧ KeepB M h h' ∧ Osl M h' v sz n (setR cs (i * sz) vs) ∧ h'.next = h.next ∧
      (∀ b B, h.at b = some B → (∀ b' o l c s e bs f, v = .sl b' o l c s e → h.at b' = some (.cells bs f) → B.fam? ≠ some f) → h'.at b = some B) ∧ famOf h' v = famOf h v := by
  rcases hs with ⟨rfl, rfl, rfl⟩ | ⟨b, cap, ex, bs, f, rfl, hb, hf, hl, rfl, hc, hnc⟩
  · omega
  · have hmul : i * sz + sz ≤ n * sz := by
      have := Nat.mul_le_mul_right sz (show i + 1 ≤ n from hi)
      rw [Nat.add_mul] at this; omega
    obtain ⟨h', k1, k2, k3, k4, k5, k6⟩ := storeL_own (M := M) hw (off := 0 + i * sz) (vs := vs) hb hf hM (by omega) hfl
    refine ⟨h', ?_, k2, .inr ⟨b, cap, ex, _, f, rfl, k3, hf, ?_, ?_, ?_, hnc⟩, k4, fun c C hC hno => k5 c C hC (hno _ _ _ _ _ _ _ _ rfl hb), by rw [famOf_sl k3, famOf_sl hb]⟩
    · unfold storeA addrOf
      dsimp only
      rw [hz]
      dsimp only
      rw [ha, show Nat.beq vs.length sz = true by simp [hvs]]
      exact k1
    · rw [setR_length (by omega)]; exact hl
    · rw [show 0 + i * sz = i * sz by omega, take_setR (by omega) (by omega)]
    · rw [setR_length (by omega)]; exact hc
end
end
end Go.Proofs.Ytllldiokcnheiaa.Ab
