/- The interpreter with recursors answers as the first one; a call without arguments that it answers with true returns true in every world, where the program follows mixed orders; more fuel gives the same answer; rules for code. -/
import Derived.Test.YtllldiokcnheiaaAb3
import Derived.Test.YtllldiokcnheiaaAb5

namespace Go.Proofs.Ytllldiokcnheiaa.Ab
noncomputable section

def pickK {β : Type} (k : Nat) (z : β) (o e : Nat → β) : β :=
  @Bool.rec (fun _ => β) (@Bool.rec (fun _ => β) (e (Nat.sub (Nat.div k 2) 1)) (o (Nat.div k 2)) (Nat.beq (Nat.mod k 2) 1)) z (Nat.beq k 0)

theorem pickK_eq {β : Type} (k : Nat) (z : β) (o e : Nat → β) : pickK k z o e = PM.pick k z o e := by
  unfold pickK PM.pick
  cases Nat.beq k 0
  · cases Nat.beq (Nat.mod k 2) 1 <;> rfl
  · rfl

def getK {α : Type} (t : PM α) : Nat → Option α :=
  @PM.rec α (fun _ => Nat → Option α) (fun _ => none) (fun v _ _ gl gr k => pickK k v gl gr) t

theorem getK_eq {α : Type} (t : PM α) : getK t = t.get := by
  induction t with
  | e => rfl
  | n v l r ihl ihr =>
    funext k
    show pickK k v (getK l) (getK r) = PM.pick k v l.get r.get
    rw [pickK_eq, ihl, ihr]

def freshK {α : Type} (x : Option α) (d : Nat) : Nat → PM α :=
  @Nat.rec (fun _ => Nat → PM α) (fun _ => .e) (fun _ ih k => pickK k (.n x .e .e) (fun k => .n none (ih k) .e) (fun k => .n none .e (ih k))) d

theorem freshK_eq {α : Type} (x : Option α) (d : Nat) : freshK x d = PM.fresh x d := by
  induction d with
  | zero => rfl
  | succ d ih =>
    funext k
    show pickK k (PM.n x .e .e) (fun k => .n none (freshK x d k) .e) (fun k => .n none .e (freshK x d k)) = PM.pick k (PM.n x .e .e) (fun k => .n none (PM.fresh x d k) .e) (fun k => .n none .e (PM.fresh x d k))
    rw [pickK_eq, ih]

def putPK {α : Type} (t : PM α) (x : Option α) : Nat → PM α :=
  @PM.rec α (fun _ => Nat → PM α) (fun k => freshK x (Nat.succ k) k) (fun v l r pl pr k => pickK k (.n x l r) (fun k => .n v (pl k) r) (fun k => .n v l (pr k))) t

theorem putPK_eq {α : Type} (t : PM α) (x : Option α) : putPK t x = fun k => t.put k x := by
  induction t with
  | e => funext k; show freshK x (Nat.succ k) k = PM.fresh x (Nat.succ k) k; rw [freshK_eq]
  | n v l r ihl ihr =>
    funext k
    show pickK k (PM.n x l r) (fun k => .n v (putPK l x k) r) (fun k => .n v l (putPK r x k)) = PM.pick k (PM.n x l r) (fun k => .n v (l.put k x) r) (fun k => .n v l (r.put k x))
    rw [pickK_eq, ihl, ihr]

def lookK (l : List (Nat × AV)) (k : Nat) : Option AV :=
  @List.rec (Nat × AV) (fun _ => Option AV) none (fun p _ ih => @Bool.rec (fun _ => Option AV) ih (some p.2) (Nat.beq p.1 k)) l

theorem lookK_eq (l : List (Nat × AV)) (k : Nat) : lookK l k = lookL l k := by
  induction l with
  | nil => rfl
  | cons p r ih =>
    show @Bool.rec (fun _ => Option AV) (lookK r k) (some p.2) (Nat.beq p.1 k) = look1 k p.1 p.2 (lookL r k)
    unfold look1
    rw [ih]
    cases Nat.beq p.1 k <;> rfl

def frGet (F : Fr) (t : Nat) : Option AV := @Option.rec AV (fun _ => Option AV) (getK F.far t) (fun a => some a) (lookK F.loc t)

theorem frGet_eq (F : Fr) (t : Nat) : frGet F t = F.get t := by
  unfold frGet Fr.get
  rw [lookK_eq, getK_eq]
  cases lookL F.loc t <;> rfl

def globK (G g : Nat) : Option AV := @Bool.rec (fun _ => Option AV) none (some (.ptr (Nat.succ g) 0)) (Nat.ble (Nat.succ g) G)

def evalK (G : Nat) (F : Fr) (x : Operand) : Option AV :=
  @Operand.rec (fun _ => Option AV) (fun t => frGet F t) (fun v => ofV v) (fun g => globK G g) (fun f => some (.fn (.func f) [] [])) x

theorem evalK_eq (G : Nat) (F : Fr) (x : Operand) : evalK G F x = evalA G F x := by
  cases x with
  | tmp t => exact frGet_eq F t
  | const v => rfl
  | global g =>
    show @Bool.rec (fun _ => Option AV) none (some (.ptr (Nat.succ g) 0)) (Nat.ble (Nat.succ g) G) = evalA G F (.global g)
    unfold evalA
    dsimp only
    cases Nat.ble (Nat.succ g) G <;> rfl
  | func f => rfl

def evalsK (G : Nat) (F : Fr) (l : List Operand) : Option (List AV) :=
  @List.rec Operand (fun _ => Option (List AV)) (some []) (fun x _ ih => @Option.rec AV (fun _ => Option (List AV)) none (fun a => @Option.rec (List AV) (fun _ => Option (List AV)) none (fun l => some (a :: l)) ih) (evalK G F x)) l

theorem evalsK_eq (G : Nat) (F : Fr) : ∀ l, evalsK G F l = evalsA G F l
  | [] => rfl
  | x :: r => by
    show @Option.rec AV (fun _ => Option (List AV)) none (fun a => @Option.rec (List AV) (fun _ => Option (List AV)) none (fun l => some (a :: l)) (evalsK G F r)) (evalK G F x) = _
    rw [evalsK_eq G F r, evalK_eq]
    have e : evalsA G F (x :: r) = match evalA G F x with
      | some a => match evalsA G F r with
        | some l => some (a :: l)
        | none => none
      | none => none := rfl
    rw [e]
    cases evalA G F x with
    | none => rfl
    | some a => cases evalsA G F r <;> rfl

def bindK {β : Type} (x : Option AV) (f : AV → Option β) : Option β := @Option.rec AV (fun _ => Option β) none f x
theorem bindK_eq {β : Type} (x : Option AV) (f : AV → Option β) : bindK x f = bind1 x f := by cases x <;> rfl

def valK (h : AH) (x : Option AV) : Option ARes := @Option.rec AV (fun _ => Option ARes) none (fun a => some (.val a h)) x
theorem valK_eq (h : AH) (x : Option AV) : valK h x = valO h x := by cases x <;> rfl
def valHK (x : Option AH) : Option ARes := @Option.rec AH (fun _ => Option ARes) none (fun h => some (.val (.tup []) h)) x
theorem valHK_eq (x : Option AH) : valHK x = valH x := by cases x <;> rfl

def sMoveK (x : Operand) : StepF := fun _ G F h => valK h (evalK G F x)
def sPick2K (a b : Operand) (G : Nat) (F : Fr) (h : AH) (c : AV) : Option ARes :=
  match c with
  | .bool true => bindK (evalK G F b) fun _ => valK h (evalK G F a)
  | .bool false => bindK (evalK G F a) fun _ => valK h (evalK G F b)
  | _ => none
def sPickK (c a b : Operand) : StepF := fun _ G F h => bindK (evalK G F c) (sPick2K a b G F h)
def sBoxK (x : Operand) : StepF := fun _ G F h => bindK (evalK G F x) fun x => some (.val (.ptr h.next 0) ⟨putPK h.blocks (some (.cells (cellsA x) h.next)) h.next, putPK h.fams (some [h.next]) h.next, Nat.succ h.next⟩)
def load1K (h : AH) (b off : Nat) : Option AV :=
  @Option.rec Blk (fun _ => Option AV) none (fun B => @Blk.rec (fun _ => Option AV) (fun cs _ => nthF cs off) (fun _ _ => none) (fun _ _ => none) B) (getK h.blocks b)
theorem load1K_eq (h : AH) (b off : Nat) : load1K h b off = load1F h b off := by
  unfold load1K load1F AH.at
  rw [getK_eq]
  cases h.blocks.get b with
  | none => rfl
  | some B => cases B <;> rfl
def load2K (P : Program) (t : TypeId) (h : AH) (a : AV) : Option ARes :=
  match a with
  | .ptr b off => match shapeA P t with
    | some none => valK h (load1K h b off)
    | some (some n) => match loadLF h b off n with
      | some l => some (.val (.agg l) h)
      | none => none
    | none => none
  | _ => none
def sLoadK (t : TypeId) (a : Operand) : StepF := fun P G F h => bindK (evalK G F a) (load2K P t h)
theorem load2K_eq (P : Program) (t : TypeId) (h : AH) (a : AV) : load2K P t h a = valO h (loadAF P t a h) := by
  unfold load2K loadAF
  cases a <;> try rfl
  dsimp only
  cases shapeA P t with
  | none => rfl
  | some o => cases o with
    | none => dsimp only; rw [valK_eq, load1K_eq]
    | some n =>
      dsimp only
      rename_i b off
      cases loadLF h b off n <;> rfl
def sStoreK (t : TypeId) (a x : Operand) : StepF := fun P G F h => bindK (evalK G F a) fun a => bindK (evalK G F x) fun x => valHK (storeAF P t a x h)
def sNilK (x : Operand) : StepF := fun _ G F h => bindK (evalK G F x) (sNil2 h)
def sBinK (op : BinOp) (t : TypeId) (x y : Operand) : StepF := fun P G F h => bindK (evalK G F x) fun x => bindK (evalK G F y) fun y => valK h (binT x P op t y)
def sUnK (op : UnOp) (x : Operand) : StepF := fun _ G F h => bindK (evalK G F x) fun x => valK h (unA op x)
def sConvK (s d : TypeId) (x : Operand) : StepF := fun P G F h => bindK (evalK G F x) fun x => valK h (convA P s d x)
def sFieldAddrK (s : TypeId) (x : Operand) (f : Nat) : StepF := fun P G F h => bindK (evalK G F x) fun x => valK h (fieldAddrA P s x f)
def sIndexAddrK (t : TypeId) (x i : Operand) : StepF := fun P G F h => bindK (evalK G F x) fun x => bindK (evalK G F i) fun i => valK h (indexAddrA P t x i)
def sIndexK (t : TypeId) (x i : Operand) : StepF := fun P G F h => bindK (evalK G F x) fun x => bindK (evalK G F i) fun i => valK h (indexA P t x i)
def sExtractK (x : Operand) (i : Nat) : StepF := fun _ G F h => bindK (evalK G F x) fun x => valK h (extractA x i)
def sCall2K (P : Program) (G : Nat) (F : Fr) (h : AH) (c : Call) (as : List AV) : Option ARes :=
  @Callee.rec (fun _ => Option ARes) (fun f => bindK (evalK G F f) (sCallV as)) (fun _ _ => none) (fun b => builtinA P b c.argTypes.toList as h) c.callee
def sCallK (c : Call) : StepF := fun P G F h => @Option.rec (List AV) (fun _ => Option ARes) none (fun as => sCall2K P G F h c as) (evalsK G F c.args.toList)

def stepK (o : Op) : StepF :=
  @Op.rec (fun _ => StepF) (fun x => sMoveK x)
    (fun x => sMoveK x)
    (fun c a b => sPickK c a b)
    (fun t => sAlloc t)
    (fun t x => sBoxK x)
    (fun t ps => sBuild t ps)
    (fun t n ps => sBuildSlice t n ps)
    (fun t m k x => sOther (.insert t m k x))
    (fun t a => sLoadK t a)
    (fun t a x => sStoreK t a x)
    (fun g => sOther (.ready g))
    (fun g => sOther (.waits g))
    (fun x => sNilK x)
    (fun op t x y u => sBinK op t x y)
    (fun op t x => sUnK op x)
    (fun s d x => sConvK s d x)
    (fun d x => sOther (.sliceToArrayPointer d x))
    (fun t x => sIface t x)
    (fun f a b => sOther (.makeFunc f a b))
    (fun t r => sOther (.makeMap t r))
    (fun t s => sOther (.makeChan t s))
    (fun t l c => sMakeSlice t l c)
    (fun t x lo hi mx => sSlice t x lo hi mx)
    (fun s x f => sFieldAddrK s x f)
    (fun t x f => sField t x f)
    (fun t x i => sIndexAddrK t x i)
    (fun t x i => sIndexK t x i)
    (fun t x i ok => sOther (.lookup t x i ok))
    (fun t m k x => sOther (.mapUpdate t m k x))
    (fun t m k => sOther (.mapEntry t m k))
    (fun t m s x => sOther (.entryStore t m s x))
    (fun t x => sOther (.range t x))
    (fun i s => sOther (.next i s))
    (fun i => sOther (.entry i))
    (fun x t u ok => sOther (.typeAssert x t u ok))
    (fun x i => sExtractK x i)
    (fun c => sCallK c)
    (fun c => sOther (.go c))
    (fun c => sOther (.defer c))
    (fun x => sOther (.panic x))
    (fun c x => sOther (.send c x))
    (fun t c ok => sOther (.recv t c ok))
    (fun cs b => sOther (.select cs b)) o

theorem stepK_eq (o : Op) (P : Program) (G : Nat) (F : Fr) (h : AH) : stepK o P G F h = stepT o P G F h := by
  cases o <;> try rfl
  case move x => show valK h (evalK G F x) = valO h (evalA G F x); rw [valK_eq, evalK_eq]
  case assign x => show valK h (evalK G F x) = valO h (evalA G F x); rw [valK_eq, evalK_eq]
  case pick c a b =>
    show bindK (evalK G F c) (sPick2K a b G F h) = bind1 (evalA G F c) (sPick2 a b G F h)
    rw [bindK_eq, evalK_eq]
    congr 1; funext v
    unfold sPick2K sPick2
    simp only [bindK_eq, evalK_eq, valK_eq]
    cases v <;> rfl
  case box t x =>
    show bindK (evalK G F x) _ = bind1 (evalA G F x) _
    rw [bindK_eq, evalK_eq]
    simp only [putPK_eq]
    rfl
  case load t a =>
    show bindK (evalK G F a) (load2K P t h) = bind1 (evalA G F a) _
    rw [bindK_eq, evalK_eq]
    congr 1; funext v
    exact load2K_eq P t h v
  case store t a x =>
    show bindK (evalK G F a) _ = bind1 (evalA G F a) _
    rw [bindK_eq, evalK_eq]
    congr 1; funext v
    rw [bindK_eq, evalK_eq]
    congr 1; funext v
    exact valHK_eq _
  case nilCheck x =>
    show bindK (evalK G F x) (sNil2 h) = bind1 (evalA G F x) (sNil2 h)
    rw [bindK_eq, evalK_eq]
  case binOp op t x y u =>
    show bindK (evalK G F x) _ = bind1 (evalA G F x) _
    rw [bindK_eq, evalK_eq]
    congr 1; funext v
    rw [bindK_eq, evalK_eq]
    congr 1; funext v
    exact valK_eq _ _
  case unOp op t x =>
    show bindK (evalK G F x) _ = bind1 (evalA G F x) _
    rw [bindK_eq, evalK_eq]
    congr 1; funext v
    exact valK_eq _ _
  case convert s d x =>
    show bindK (evalK G F x) _ = bind1 (evalA G F x) _
    rw [bindK_eq, evalK_eq]
    congr 1; funext v
    exact valK_eq _ _
  case fieldAddr s x f =>
    show bindK (evalK G F x) _ = bind1 (evalA G F x) _
    rw [bindK_eq, evalK_eq]
    congr 1; funext v
    exact valK_eq _ _
  case indexAddr t x i =>
    show bindK (evalK G F x) _ = bind1 (evalA G F x) _
    rw [bindK_eq, evalK_eq]
    congr 1; funext v
    rw [bindK_eq, evalK_eq]
    congr 1; funext v
    exact valK_eq _ _
  case index t x i =>
    show bindK (evalK G F x) _ = bind1 (evalA G F x) _
    rw [bindK_eq, evalK_eq]
    congr 1; funext v
    rw [bindK_eq, evalK_eq]
    congr 1; funext v
    exact valK_eq _ _
  case extract x i =>
    show bindK (evalK G F x) _ = bind1 (evalA G F x) _
    rw [bindK_eq, evalK_eq]
    congr 1; funext v
    exact valK_eq _ _
  case call c =>
    show sCallK c P G F h = sCall c P G F h
    unfold sCallK sCall
    rw [evalsK_eq]
    cases evalsA G F c.args.toList with
    | none => rfl
    | some as =>
      show sCall2K P G F h c as = sCall2 P G F h c.argTypes.toList as c.callee
      unfold sCall2K sCall2
      cases c.callee with
      | value f => show bindK (evalK G F f) (sCallV as) = bind1 (evalA G F f) (sCallV as); rw [bindK_eq, evalK_eq]
      | invoke _ _ => rfl
      | builtin b => rfl

def putK (N : Nat) (F : Fr) (d : Option Tmp) (a : AV) : Option Fr :=
  @Option.rec Tmp (fun _ => Option Fr) (some F) (fun t => @Bool.rec (fun _ => Option Fr) none (some ⟨(t, a) :: F.loc, F.far⟩) (Nat.ble (Nat.succ t) N)) d
theorem putK_eq (N : Nat) (F : Fr) (d : Option Tmp) (a : AV) : putK N F d a = putA N F d a := by
  unfold putK putA
  cases d with
  | none => rfl
  | some t =>
    dsimp only
    cases Nat.ble (Nat.succ t) N <;> rfl

def wantedK (ops : List Oper) (F : Fr) (o : Oper) : Option Bool :=
  @Option.rec (Nat × Bool) (fun _ => Option Bool) (some true) (fun _ => wantedA ops F o) o.guard
theorem wantedK_eq (ops : List Oper) (F : Fr) (o : Oper) : wantedK ops F o = wantedA ops F o := by
  unfold wantedK
  cases hg : o.guard with
  | none => unfold wantedA; rw [hg]
  | some jw => rfl

def doRun (call : CallF) (h : AH) (r : ARes) : Option (AV × AH) := @ARes.rec (fun _ => Option (AV × AH)) (fun a h' => some (a, h')) (fun f args => call f args h) r
def doOpK (P : Program) (G : Nat) (call : CallF) (ops : List Oper) (o : Oper) (F : Fr) (h : AH) : Option (AV × AH) :=
  @Option.rec Bool (fun _ => Option (AV × AH)) none (fun b => @Bool.rec (fun _ => Option (AV × AH)) (some (.tup [], h)) (@Option.rec ARes (fun _ => Option (AV × AH)) none (fun r => doRun call h r) (stepK o.op P G F h)) b) (wantedK ops F o)
theorem doOpK_eq (P : Program) (G : Nat) (call : CallF) (ops : List Oper) (o : Oper) (F : Fr) (h : AH) : doOpK P G call ops o F h = doOp P G call ops o F h := by
  unfold doOpK doOp
  rw [wantedK_eq, stepK_eq]
  cases wantedA ops F o with
  | none => rfl
  | some b =>
    cases b with
    | false => rfl
    | true =>
      dsimp only
      cases stepT o.op P G F h with
      | none => rfl
      | some r => cases r <;> rfl

def rOpK (N : Nat) (d : Option Tmp) (ih : Fr → AH → Option (Fr × AH)) (F : Fr) (x : Option (AV × AH)) : Option (Fr × AH) :=
  @Option.rec (AV × AH) (fun _ => Option (Fr × AH)) none (fun p => @Prod.rec AV AH (fun _ => Option (Fr × AH)) (fun a h' => @Option.rec Fr (fun _ => Option (Fr × AH)) none (fun F' => ih F' h') (putK N F d a)) p) x

def runOpsK (P : Program) (G : Nat) (call : CallF) (N : Nat) (ops : List Oper) (l : List Oper) : Fr → AH → Option (Fr × AH) :=
  @List.rec Oper (fun _ => Fr → AH → Option (Fr × AH)) (fun F h => some (F, h)) (fun o _ ih F h => rOpK N o.dst ih F (doOpK P G call ops o F h)) l

theorem runOpsK_eq (P : Program) (G : Nat) (call : CallF) (N : Nat) (ops : List Oper) (l : List Oper) : runOpsK P G call N ops l = runOps P G call N ops l := by
  induction l with
  | nil => rfl
  | cons o r ih =>
    funext F h
    show rOpK N o.dst (runOpsK P G call N ops r) F (doOpK P G call ops o F h) = rOp2 N o.dst (runOps P G call N ops r) F (doOp P G call ops o F h)
    rw [ih, doOpK_eq]
    unfold rOpK rOp2
    cases doOp P G call ops o F h with
    | none => rfl
    | some p =>
      obtain ⟨a, h'⟩ := p
      dsimp only
      rw [putK_eq]
      cases putA N F o.dst a <;> rfl

def runCanonK (P : Program) (G : Nat) (call : CallF) (N : Nat) (ops : List Oper) (l : List Nat) : Fr → AH → List Ran → Option (Fr × AH × List Ran) :=
  @List.rec Nat (fun _ => Fr → AH → List Ran → Option (Fr × AH × List Ran)) (fun F h rs => some (F, h, rs))
    (fun i _ ih F h rs => @Option.rec Oper (fun _ => Option (Fr × AH × List Ran)) none (fun o => @Option.rec (AV × AH) (fun _ => Option (Fr × AH × List Ran)) none
      (fun p => @Prod.rec AV AH (fun _ => Option (Fr × AH × List Ran)) (fun a h' => @Option.rec Fr (fun _ => Option (Fr × AH × List Ran)) none (fun F' => ih F' h' (⟨i, F, h, a, h'⟩ :: rs)) (putK N F o.dst a)) p) (doOpK P G call ops o F h)) (ops[i]?)) l

theorem runCanonK_eq (P : Program) (G : Nat) (call : CallF) (N : Nat) (ops : List Oper) : ∀ (l : List Nat) (F : Fr) (h : AH) (rs : List Ran), runCanonK P G call N ops l F h rs = runCanon P G call N ops l F h rs
  | [], _, _, _ => rfl
  | i :: r, F, h, rs => by
    have ih := runCanonK_eq P G call N ops r
    show @Option.rec Oper (fun _ => Option (Fr × AH × List Ran)) none (fun o => @Option.rec (AV × AH) (fun _ => Option (Fr × AH × List Ran)) none
      (fun p => @Prod.rec AV AH (fun _ => Option (Fr × AH × List Ran)) (fun a h' => @Option.rec Fr (fun _ => Option (Fr × AH × List Ran)) none (fun F' => runCanonK P G call N ops r F' h' (⟨i, F, h, a, h'⟩ :: rs)) (putK N F o.dst a)) p) (doOpK P G call ops o F h)) (ops[i]?) = _
    unfold runCanon
    cases ops[i]? with
    | none => rfl
    | some o =>
      dsimp only
      rw [doOpK_eq]
      cases doOp P G call ops o F h with
      | none => rfl
      | some p =>
        obtain ⟨a, h'⟩ := p
        dsimp only
        rw [putK_eq]
        cases putA N F o.dst a with
        | none => rfl
        | some F' => exact ih _ _ _

def runDrawK (P : Program) (G : Nat) (call : CallF) (N : Nat) (ops : List Oper) (F : Fr) (h : AH) : Option (Fr × AH) :=
  match regionOk ops (masks ops []) (canonOf ops) with
  | false => none
  | true =>
    match runCanonK P G call N ops (canonOf ops) F h [] with
    | none => none
    | some (F', h', rs) =>
      match loadsOk P G ops (masks ops []) (snaps ops h rs) rs with
      | true => some (F', h')
      | false => none

theorem runDrawK_eq (P : Program) (G : Nat) (call : CallF) (N : Nat) (ops : List Oper) (F : Fr) (h : AH) : runDrawK P G call N ops F h = runDraw P G call N ops F h := by
  unfold runDrawK runDraw
  simp only [runCanonK_eq]
  cases regionOk ops (masks ops []) (canonOf ops) with
  | false => rfl
  | true =>
    dsimp only
    cases runCanon P G call N ops (canonOf ops) F h [] with
    | none => rfl
    | some p =>
      obtain ⟨F', h', rs⟩ := p
      dsimp only
      cases loadsOk P G ops (masks ops []) (snaps ops h rs) rs <;> rfl

def keepLK (loc : List (Nat × AV)) (ks : List Nat) : PM AV → PM AV :=
  @List.rec Nat (fun _ => PM AV → PM AV) (fun far => far) (fun t _ ih far => @Option.rec AV (fun _ => PM AV) (ih far) (fun a => ih (putPK far (some a) t)) (lookK loc t)) ks
theorem keepLK_eq (loc : List (Nat × AV)) : ∀ (ks : List Nat) (far : PM AV), keepLK loc ks far = keepL loc ks far
  | [], far => rfl
  | t :: r, far => by
    show @Option.rec AV (fun _ => PM AV) (keepLK loc r far) (fun a => keepLK loc r (putPK far (some a) t)) (lookK loc t) = _
    unfold keepL
    rw [lookK_eq]
    cases lookL loc t with
    | none => exact keepLK_eq loc r far
    | some a =>
      show keepLK loc r (putPK far (some a) t) = keepL loc r (far.set t a)
      rw [keepLK_eq loc r, putPK_eq]; rfl

def outK (ks : List Nat) (x : Option (Fr × AH)) : Out := @Option.rec (Fr × AH) (fun _ => Out) none (fun p => @Prod.rec Fr AH (fun _ => Out) (fun F h => some (.normal, ⟨[], keepLK F.loc ks F.far⟩, h)) p) x
theorem outK_eq (ks : List Nat) (x : Option (Fr × AH)) : outK ks x = outN ks x := by
  cases x with
  | none => rfl
  | some p =>
    obtain ⟨F, h⟩ := p
    show some (Ex.normal, (⟨[], keepLK F.loc ks F.far⟩ : Fr), h) = some (Ex.normal, (⟨[], keepL F.loc ks F.far⟩ : Fr), h)
    rw [keepLK_eq]

def yRegion (P : Program) (O : CallF) (G : Nat) (ih : Code → RunF) (ops : Array Oper) (d : Bool) : RunF := fun N K F h =>
  outK (keeps K ops.toList) (@Bool.rec (fun _ => Option (Fr × AH)) (runOpsK P G (callW P O ih) N ops.toList ops.toList F h) (runDrawK P G (callW P O ih) N ops.toList F h) d)
def yThen (b : RunF) (N K : Nat) (r : Out) : Out :=
  @Option.rec (Ex × Fr × AH) (fun _ => Out) none (fun p => @Prod.rec Ex (Fr × AH) (fun _ => Out) (fun e q => @Ex.rec (fun _ => Out) (b N K q.1 q.2) (fun i => some (.exit i, q)) (some (.ret, q)) (fun l => some (.goto l, q)) e) p) r
theorem yThen_eq (b : RunF) (N K : Nat) (r : Out) : yThen b N K r = xThen b N K r := by
  unfold yThen xThen
  cases r with
  | none => rfl
  | some p => obtain ⟨e, F, h⟩ := p; cases e <;> rfl
def yCond1 (ih : Code → RunF) (a b : Code) (N K : Nat) (F : Fr) (h : AH) (v : AV) : Out :=
  match v with
  | .bool t => @Bool.rec (fun _ => Out) (ih b N K F h) (ih a N K F h) t
  | _ => none
def yCond (G : Nat) (ih : Code → RunF) (x : Operand) (a b : Code) : RunF := fun N K F h => @Option.rec AV (fun _ => Out) none (fun v => yCond1 ih a b N K F h v) (evalK G F x)
theorem yCond_eq (G : Nat) (ih : Code → RunF) (x : Operand) (a b : Code) : yCond G ih x a b = xCond G ih x a b := by
  funext N K F h
  unfold yCond xCond
  rw [evalK_eq]
  cases evalA G F x with
  | none => rfl
  | some v =>
    cases v <;> try rfl
    rename_i t; cases t <;> rfl

def execBK (P : Program) (O : CallF) (G : Nat) (ih : Code → RunF) (c : Code) : RunF :=
  @Code.rec (fun _ => RunF) xSkip (fun _ ops d => yRegion P O G ih ops d) (fun a b _ _ => fun N K F h => yThen (ih b) N K (ih a N K F h)) (fun x a b _ _ => yCond G ih x a b)
    (fun id b _ => xBlock ih id b) (fun b _ => fun N K F h => yThen (ih (.loop b)) N K (ih b N K F h)) (fun _ _ _ _ _ _ => xNone) (fun id => xExit id) (fun _ _ => xNone) (fun _ => xSkip) (fun _ => xNone) xRet (fun _ => xNone) c

theorem execBK_eq (P : Program) (O : CallF) (G : Nat) (ih : Code → RunF) (c : Code) : execBK P O G ih c = execB P O G ih c := by
  cases c <;> try rfl
  case region id ops d =>
    funext N K F h
    show outK (keeps K ops.toList) (@Bool.rec (fun _ => Option (Fr × AH)) (runOpsK P G (callW P O ih) N ops.toList ops.toList F h) (runDrawK P G (callW P O ih) N ops.toList F h) d) = xRegion P O G ih ops d N K F h
    unfold xRegion
    rw [outK_eq, runOpsK_eq, runDrawK_eq]
    cases d <;> rfl
  case seq a b => funext N K F h; exact yThen_eq _ _ _ _
  case cond x a b => exact yCond_eq G ih x a b
  case loop b => funext N K F h; exact yThen_eq _ _ _ _

def execK (P : Program) (O : CallF) (G : Nat) (n : Nat) : Code → RunF :=
  @Nat.rec (fun _ => Code → RunF) (fun _ => xNone) (fun _ ih => execBK P O G ih) n

theorem execK_eq (P : Program) (O : CallF) (G : Nat) (n : Nat) : execK P O G n = exec P O G n := by
  induction n with
  | zero => rfl
  | succ n ih =>
    funext c
    show execBK P O G (execK P O G n) c = execB P O G (exec P O G n) c
    rw [execBK_eq, ih]

def callK (P : Program) (O : CallF) (G : Nat) (n : Nat) : CallF := callW P O (execK P O G n)
theorem callK_eq (P : Program) (O : CallF) (G : Nat) (n : Nat) : callK P O G n = callA P O G n := by unfold callK callA; rw [execK_eq]
end
end Go.Proofs.Ytllldiokcnheiaa.Ab

namespace Go.Proofs.Ytllldiokcnheiaa.Ab
open Go.RowKit
noncomputable section

def isTrue (x : Option (AV × AH)) : Bool :=
  match x with
  | some (.bool true, _) => true
  | _ => false

theorem isTrue_spec {x : Option (AV × AH)} (h : isTrue x = true) : ∃ h', x = some (.bool true, h') := by
  unfold isTrue at h
  split at h
  · exact ⟨_, rfl⟩
  · cases h

theorem Adv.below {μ ν : Places} {n : Nat} {h' : AH} {w w' : World} (ha : Adv μ (AH.none n) w ν h' w') : Below w.heap.size w w' :=
  ⟨ha.os, ha.tape, ha.output, ha.size_le, fun k hk => ha.frame k hk fun c C M hC => (none_at hC).elim⟩

theorem noO_ok {P : Program} {G : Nat} : CallOk P G noO := fun _ _ _ _ _ h => by cases h
theorem noO_next : CallNext noO := fun _ _ _ _ _ h => by cases h

/-- What a function without arguments comes to in every world: true, and nothing else changed. -/
def Says (P : Program) (f : FuncId) : Prop := ∀ w : World, (callFunc f #[]).run P w = .ok (.enter f #[]) w ∧ Calls P f #[] w fun e w' => e = .returned (.bool true) ∧ Below w.heap.size w w'

/-- A call without arguments that the interpreter answers with true. -/
theorem says_of {P : Program} {O : CallF} (hO : CallOk P 0 O) (hOn : CallNext O) (hm : P.follows .mixedOrders = true) (hnm : Named P) {n : Nat} {f : FuncId} (hc : isTrue (callK P O 0 n f [] (AH.none 1)) = true) : Says P f := by
  intro w
  obtain ⟨h', he⟩ := isTrue_spec hc
  rw [callK_eq] at he
  have hok := call_ok hO hnm (sound_all (G := 0) hO hOn draw_ok hm hnm n).1
  obtain ⟨h1, h2⟩ := hok f [] (AH.none 1) (.bool true) h' he (fun _ => none) w [] (RelH.none (by omega)) .nil ⟨fun g hg => by omega, 0, fun _ _ => rfl⟩ (fun _ _ _ => rfl)
  refine ⟨h1, Calls.mono h2 fun e w' ⟨ν, u, h3, h4, _, h6⟩ => ?_⟩
  cases h4
  exact ⟨h3, h6.below⟩

/-- Of one function it is known beforehand. -/
def knownO (g : FuncId) : CallF := fun f args h =>
  match Nat.beq f g, args with
  | true, [] => some (.bool true, h)
  | _, _ => none

theorem RelH.below {μ : Places} {h : AH} {w w' : World} (hr : RelH μ h w) (hb : Below w.heap.size w w') : RelH μ h w' ∧ Adv μ h w μ h w' := by
  refine ⟨⟨fun b B hB => ?_, hr.lt, hr.pos, hr.famlt, hr.sep, hr.fams⟩, ⟨Nat.le_refl _, hb.size, fun _ _ => rfl, Le.refl _, fun _ B' hb => .inl ⟨B', hb, id⟩, fun k hk _ => hb.block k hk, hb.os, hb.tape, hb.output⟩⟩
  obtain ⟨L, hL⟩ := (hr.rel b B hB).place
  exact (hr.rel b B hB).move (Le.refl _) hL (hb.block _ ((hr.rel b B hB).lt hL))

theorem knownO_next {g : FuncId} : CallNext (knownO g) := fun f args h v h' hc => by
  unfold knownO at hc
  split at hc <;> cases hc
  exact Nat.le_refl _

theorem knownO_ok {P : Program} {G : Nat} {g : FuncId} (hs : Says P g) : CallOk P G (knownO g) := fun f args h v h' hc μ w vs hr hv hg hf => by
  unfold knownO at hc
  split at hc <;> cases hc
  rename_i hfg
  have : f = g := Nat.eq_of_beq_eq_true hfg
  subst this
  cases hv
  obtain ⟨h1, h2⟩ := hs w
  refine ⟨h1, Calls.mono h2 fun e w' ⟨h3, h4⟩ => ?_⟩
  obtain ⟨k1, k2⟩ := hr.below h4
  exact ⟨μ, .bool true, h3, .bool true, k1, k2⟩
end
end Go.Proofs.Ytllldiokcnheiaa.Ab

namespace Go.Proofs.Ytllldiokcnheiaa.Ab
noncomputable section
section
variable {P : Program} {O : CallF} {G N K : Nat} {call call' : CallF} {ops : List Oper}

/-- The second one answers wherever the first one does, and alike. -/
def CallLe (call call' : CallF) : Prop := ∀ f args h r, call f args h = some r → call' f args h = some r

theorem doOp_mono (hc : CallLe call call') {o : Oper} {F : Fr} {h : AH} {r : AV × AH} (hd : doOp P G call ops o F h = some r) : doOp P G call' ops o F h = some r := by
  unfold doOp at hd ⊢
  split at hd <;> try (cases hd; done)
  · exact hd
  · split at hd <;> try (cases hd; done)
    · exact hd
    · exact hc _ _ _ _ hd

theorem runOps_mono (hc : CallLe call call') : ∀ {l : List Oper} {F : Fr} {h : AH} {r : Fr × AH}, runOps P G call N ops l F h = some r → runOps P G call' N ops l F h = some r
  | [], F, h, r, hr => hr
  | o :: l, F, h, r, hr => by
    rw [runOps_cons] at hr ⊢
    split at hr <;> try (cases hr; done)
    rename_i a h1 hd
    rw [doOp_mono hc hd]
    dsimp only
    split at hr <;> try (cases hr; done)
    exact runOps_mono hc hr

theorem runCanon_mono (hc : CallLe call call') : ∀ {l : List Nat} {F : Fr} {h : AH} {rs : List Ran} {r : Fr × AH × List Ran}, runCanon P G call N ops l F h rs = some r → runCanon P G call' N ops l F h rs = some r
  | [], F, h, rs, r, hr => hr
  | i :: l, F, h, rs, r, hr => by
    unfold runCanon at hr ⊢
    split at hr <;> try (cases hr; done)
    rename_i o ho
    split at hr <;> try (cases hr; done)
    rename_i a h1 hd
    rw [doOp_mono hc hd]
    dsimp only
    split at hr <;> try (cases hr; done)
    exact runCanon_mono hc hr

theorem runDraw_mono (hc : CallLe call call') {F : Fr} {h : AH} {r : Fr × AH} (hr : runDraw P G call N ops F h = some r) : runDraw P G call' N ops F h = some r := by
  unfold runDraw at hr ⊢
  split at hr <;> try (cases hr; done)
  split at hr <;> try (cases hr; done)
  rename_i h1
  rw [runCanon_mono hc h1]
  exact hr

def ExecLe (P : Program) (O : CallF) (G n m : Nat) : Prop := ∀ (N K : Nat) (c : Code) (F : Fr) (h : AH) (r : Ex × Fr × AH), exec P O G n c N K F h = some r → exec P O G m c N K F h = some r

theorem callA_mono {n m : Nat} (hx : ExecLe P O G n m) : CallLe (callA P O G n) (callA P O G m) := by
  intro f args h r hc
  unfold callA callW at hc ⊢
  split at hc
  · exact hc
  · unfold callF at hc ⊢
    split at hc <;> try (cases hc; done)
    split at hc <;> try (cases hc; done)
    unfold callB at hc ⊢
    split at hc <;> try (cases hc; done)
    split at hc <;> try (cases hc; done)
    · rename_i h1; rw [hx _ _ _ _ _ _ h1]; exact hc
    · rename_i h1; rw [hx _ _ _ _ _ _ h1]; exact hc

theorem exec_mono1 : ∀ n : Nat, ExecLe P O G n (n + 1)
  | 0 => fun _ _ _ _ _ _ h => by rw [exec_zero] at h; cases h
  | n + 1 => by
    have ih := exec_mono1 n
    have ihc := callA_mono ih
    intro N K c F h r he
    rw [exec_succ] at he ⊢
    split at he <;> try (cases he; done)
    · exact he
    · cases hr : runOps P G (callA P O G n) N _ _ F h with
      | none => rw [hr] at he; cases he
      | some x => rw [hr] at he; rw [runOps_mono ihc hr]; exact he
    · cases hr : runDraw P G (callA P O G n) N _ F h with
      | none => rw [hr] at he; cases he
      | some x => rw [hr] at he; rw [runDraw_mono ihc hr]; exact he
    · split at he
      · rename_i h1; rw [ih _ _ _ _ _ _ h1]; exact ih _ _ _ _ _ _ he
      · rename_i hne; rw [ih _ _ _ _ _ _ he]
        obtain ⟨e, F', h'⟩ := r
        cases e <;> first | rfl | exact absurd he (hne _ _)
    · split at he <;> try (cases he; done)
      · exact ih _ _ _ _ _ _ he
      · exact ih _ _ _ _ _ _ he
    · split at he
      · rename_i h1; rw [ih _ _ _ _ _ _ h1]; exact he
      · rename_i hne; rw [ih _ _ _ _ _ _ he]
        obtain ⟨e, F', h'⟩ := r
        cases e <;> first | rfl | exact absurd he (hne _ _ _)
    · split at he
      · rename_i h1; rw [ih _ _ _ _ _ _ h1]; exact ih _ _ _ _ _ _ he
      · rename_i hne; rw [ih _ _ _ _ _ _ he]
        obtain ⟨e, F', h'⟩ := r
        cases e <;> first | rfl | exact absurd he (hne _ _)
    · exact he
    · exact he
    · exact he

theorem exec_mono {n m : Nat} (h : n ≤ m) : ExecLe P O G n m := by
  induction m with
  | zero => have : n = 0 := by omega
            subst this; exact fun _ _ _ _ _ _ h => h
  | succ m ih =>
    by_cases e : n = m + 1
    · subst e; exact fun _ _ _ _ _ _ h => h
    · intro N K c F hh r he
      exact exec_mono1 m _ _ _ _ _ _ (ih (by omega) _ _ _ _ _ _ he)
end
end
end Go.Proofs.Ytllldiokcnheiaa.Ab

namespace Go.Proofs.Ytllldiokcnheiaa.Ab
noncomputable section
section
variable {P : Program} {O : CallF} {G N K : Nat}

/-- The code ends, and there R holds. -/
def Ev (P : Program) (O : CallF) (G N K : Nat) (c : Code) (F : Fr) (h : AH) (R : Ex → Fr → AH → Prop) : Prop :=
  ∃ n e F' h', exec P O G n c N K F h = some (e, F', h') ∧ R e F' h'

variable {F : Fr} {h : AH} {R R' : Ex → Fr → AH → Prop}

theorem Ev.mono {c : Code} (he : Ev P O G N K c F h R) (hR : ∀ e F h, R e F h → R' e F h) : Ev P O G N K c F h R' :=
  let ⟨n, e, F', h', h1, h2⟩ := he
  ⟨n, e, F', h', h1, hR _ _ _ h2⟩

theorem Ev.skip (hR : R .normal F h) : Ev P O G N K .skip F h R := ⟨1, _, _, _, rfl, hR⟩
theorem Ev.label {l : Nat} (hR : R .normal F h) : Ev P O G N K (.label l) F h R := ⟨1, _, _, _, rfl, hR⟩
theorem Ev.exit {id : Nat} (hR : R (.exit id) F h) : Ev P O G N K (.exit id) F h R := ⟨1, _, _, _, rfl, hR⟩
theorem Ev.ret (hR : R .ret F h) : Ev P O G N K .ret F h R := ⟨1, _, _, _, rfl, hR⟩

/-- Behind a first part: on, if it ended as it should. -/
def thenR (S : Fr → AH → Prop) (R : Ex → Fr → AH → Prop) : Ex → Fr → AH → Prop
  | .normal, F, h => S F h
  | e, F, h => R e F h

theorem Ev.seq {a b : Code} (ha : Ev P O G N K a F h (thenR (fun F h => Ev P O G N K b F h R) R)) : Ev P O G N K (.seq a b) F h R := by
  obtain ⟨n, e, F1, h1, he, hr⟩ := ha
  cases e with
  | normal =>
    obtain ⟨m, e2, F2, h2, he2, hr2⟩ := hr
    refine ⟨max n m + 1, e2, F2, h2, ?_, hr2⟩
    rw [exec_succ]
    dsimp only
    rw [exec_mono (Nat.le_max_left n m) _ _ _ _ _ _ he]
    exact exec_mono (Nat.le_max_right n m) _ _ _ _ _ _ he2
  | exit i => exact ⟨n + 1, _, F1, h1, by rw [exec_succ]; dsimp only; rw [he], hr⟩
  | ret => exact ⟨n + 1, _, F1, h1, by rw [exec_succ]; dsimp only; rw [he], hr⟩
  | goto l => exact ⟨n + 1, _, F1, h1, by rw [exec_succ]; dsimp only; rw [he], hr⟩

theorem Ev.cond {x : Operand} {t : Bool} {a b : Code} (hx : evalA G F x = some (.bool t)) (hc : Ev P O G N K (match t with | true => a | false => b) F h R) : Ev P O G N K (.cond x a b) F h R := by
  obtain ⟨n, e, F1, h1, he, hr⟩ := hc
  refine ⟨n + 1, e, F1, h1, ?_, hr⟩
  rw [exec_succ]
  dsimp only
  rw [hx]
  cases t <;> exact he

/-- Behind a block: what leaves it by its number goes on. -/
def blockR (id : Nat) (R : Ex → Fr → AH → Prop) : Ex → Fr → AH → Prop
  | .exit i, F, h => if i = id then R .normal F h else R (.exit i) F h
  | e, F, h => R e F h

theorem Ev.block {id : Nat} {b : Code} (hb : Ev P O G N K b F h (blockR id R)) : Ev P O G N K (.block id b) F h R := by
  obtain ⟨n, e, F1, h1, he, hr⟩ := hb
  cases e with
  | exit i =>
    by_cases hi : i = id
    · subst hi
      refine ⟨n + 1, .normal, F1, h1, ?_, by simpa [blockR] using hr⟩
      rw [exec_succ]; dsimp only; rw [he]; simp
    · refine ⟨n + 1, .exit i, F1, h1, ?_, by simpa [blockR, hi] using hr⟩
      rw [exec_succ]; dsimp only; rw [he]
      have : Nat.beq i id = false := by rw [← Bool.not_eq_true, Nat.beq_eq]; exact hi
      dsimp only; rw [this]
  | normal => exact ⟨n + 1, _, F1, h1, by rw [exec_succ]; dsimp only; rw [he], hr⟩
  | ret => exact ⟨n + 1, _, F1, h1, by rw [exec_succ]; dsimp only; rw [he], hr⟩
  | goto l => exact ⟨n + 1, _, F1, h1, by rw [exec_succ]; dsimp only; rw [he], hr⟩

/-- A loop: one round from what holds at its head. -/
theorem Ev.loop1 {b : Code} (hb : Ev P O G N K b F h (thenR (fun F h => Ev P O G N K (.loop b) F h R) R)) : Ev P O G N K (.loop b) F h R := by
  obtain ⟨n, e, F1, h1, he, hr⟩ := hb
  cases e with
  | normal =>
    obtain ⟨m, e2, F2, h2, he2, hr2⟩ := hr
    refine ⟨max n m + 1, e2, F2, h2, ?_, hr2⟩
    rw [exec_succ]
    dsimp only
    rw [exec_mono (Nat.le_max_left n m) _ _ _ _ _ _ he]
    exact exec_mono (Nat.le_max_right n m) _ _ _ _ _ _ he2
  | exit i => exact ⟨n + 1, _, F1, h1, by rw [exec_succ]; dsimp only; rw [he], hr⟩
  | ret => exact ⟨n + 1, _, F1, h1, by rw [exec_succ]; dsimp only; rw [he], hr⟩
  | goto l => exact ⟨n + 1, _, F1, h1, by rw [exec_succ]; dsimp only; rw [he], hr⟩

/-- A loop: what holds at its head, with a number that falls. -/
theorem Ev.loop {b : Code} (I : Nat → Fr → AH → Prop) (hround : ∀ m F h, I m F h → Ev P O G N K b F h (thenR (fun F h => ∃ m', m' < m ∧ I m' F h) R)) :
    ∀ (m : Nat) {F : Fr} {h : AH}, I m F h → Ev P O G N K (.loop b) F h R := by
  intro m
  induction m using Nat.strongRecOn with
  | _ m ih =>
    intro F h hI
    refine Ev.loop1 ((hround m F h hI).mono fun e F1 h1 hr => ?_)
    cases e with
    | normal => obtain ⟨m', hm, hI'⟩ := hr; exact ih m' hm hI'
    | _ => exact hr

theorem Ev.region {id : Nat} {ops : Array Oper} {n : Nat} {F1 : Fr} {h1 : AH} (hr : runOps P G (callA P O G n) N ops.toList ops.toList F h = some (F1, h1)) (hR : R .normal (F1.flush (keeps K ops.toList)) h1) :
    Ev P O G N K (.region id ops false) F h R := by
  refine ⟨n + 1, .normal, _, h1, ?_, hR⟩
  rw [exec_succ]; dsimp only; rw [hr]; rfl

theorem Ev.draw {id : Nat} {ops : Array Oper} {n : Nat} {F1 : Fr} {h1 : AH} (hr : runDraw P G (callA P O G n) N ops.toList F h = some (F1, h1)) (hR : R .normal (F1.flush (keeps K ops.toList)) h1) :
    Ev P O G N K (.region id ops true) F h R := by
  refine ⟨n + 1, .normal, _, h1, ?_, hR⟩
  rw [exec_succ]; dsimp only; rw [hr]; rfl
end
end
end Go.Proofs.Ytllldiokcnheiaa.Ab

namespace Go.Proofs.Ytllldiokcnheiaa.Ab
noncomputable section
section
variable {P : Program} {O : CallF} {G N K : Nat} {μ ν : Places} {h h' : AH} {w w' : World}

mutual
theorem VRel.back (hle : Le μ ν) : ∀ {a : AV} {v v' : Value}, VRel μ a v → VRel ν a v' → VRel μ a v'
  | _, _, _, .bool b, k => by cases k; exact .bool b
  | _, _, _, .int k n, k' => by cases k'; exact .int k n
  | _, _, _, .str s, k => by cases k; exact .str s
  | _, _, _, .nilp, k => by cases k; exact .nilp
  | _, _, _, .ptr h, k => by
    cases k with
    | ptr h' => have := hle _ _ h; rw [h'] at this; cases this; exact .ptr h
  | _, _, _, .nils, k => by cases k; exact .nils
  | _, _, _, .sl h hA hl hc he hz, k => by
    cases k with
    | sl h' hA' hl' hc' he' hz' => have := hle _ _ h; rw [h'] at this; cases this; exact .sl h hA' hl' hc' he' hz'
  | _, _, _, .nilm, k => by cases k; exact .nilm
  | _, _, _, .map h, k => by
    cases k with
    | map h' => have := hle _ _ h; rw [h'] at this; cases this; exact .map h
  | _, _, _, .fn h1 h2, k => by
    cases k with
    | fn k1 k2 => exact .fn (VRels.back hle h1 k1) (VRels.back hle h2 k2)
  | _, _, _, .nilf, k => by cases k; exact .nilf
  | _, _, _, .iface h, k => by
    cases k with
    | iface k => exact .iface (VRel.back hle h k)
  | _, _, _, .nili, k => by cases k; exact .nili
  | _, _, _, .agg h, k => by
    cases k with
    | agg k => exact .agg (VRels.back hle h k)
  | _, _, _, .tup h, k => by
    cases k with
    | tup k => exact .tup (VRels.back hle h k)
theorem VRels.back (hle : Le μ ν) : ∀ {as : List AV} {vs vs' : List Value}, VRels μ as vs → VRels ν as vs' → VRels μ as vs'
  | _, _, _, .nil, k => by cases k; exact .nil
  | _, _, _, .cons h t, k => by
    cases k with
    | cons h' t' => exact .cons (VRel.back hle h h') (VRels.back hle t t')
end

theorem ERel.back (hle : Le μ ν) : ∀ {es : List (AV × AV × Nat)} {cs cs' : List MapEntry}, ERel μ es cs → ERel ν es cs' → ERel μ es cs'
  | _, _, _, .nil, k => by cases k; exact .nil
  | _, _, _, .cons hk hv t, k => by
    cases k with
    | cons hk' hv' t' => exact .cons (hk.back hle hk') (hv.back hle hv') (ERel.back hle t t')

theorem BlkRel.back (hle : Le μ ν) {b : Nat} {B : Blk} (hb : BlkRel μ w b B) (hb' : BlkRel ν w' b B) : BlkRel μ w' b B := by
  cases B with
  | cells cs f =>
    obtain ⟨L, c, t, fr, vs, h1, h2, h3, h4, h5, h6, h7⟩ := hb
    obtain ⟨L', c', t', fr', vs', k1, k2, k3, k4, k5, k6, k7⟩ := hb'
    have := hle _ _ h1; rw [k1] at this; cases this
    exact ⟨L, c', t', fr', vs', h1, k2, k3, k4, h5.back hle k5, k6, k7⟩
  | map es n =>
    obtain ⟨L, ces, h1, h2, h3⟩ := hb
    obtain ⟨L', ces', k1, k2, k3⟩ := hb'
    have := hle _ _ h1; rw [k1] at this; cases this
    exact ⟨L, ces', h1, k2, h3.back hle k3⟩
  | it s p =>
    obtain ⟨L, h1, h2, h3⟩ := hb
    obtain ⟨L', k1, k2, k3⟩ := hb'
    have := hle _ _ h1; rw [k1] at this; cases this
    exact ⟨L, h1, h2, k3⟩

/-- Blocks that stand as they stood. -/
def Keeps (h h' : AH) : Prop := ∀ b B, h.at b = some B → h'.at b = some B

theorem Keeps.refl (h : AH) : Keeps h h := fun _ _ h => h
theorem Keeps.trans {h1 h2 h3 : AH} (a : Keeps h1 h2) (b : Keeps h2 h3) : Keeps h1 h3 := fun c B hc => b c B (a c B hc)

/-- What was made beside them is passed over. -/
theorem RelH.hide (hr : RelH μ h w) (hr' : RelH ν h' w') (ha : Adv μ h w ν h' w') (hk : Keeps h h') : RelH μ h w' ∧ Adv μ h w μ h w' := by
  refine ⟨⟨fun b B hB => (hr.rel b B hB).back ha.le (hr'.rel b B (hk b B hB)), hr.lt, hr.pos, hr.famlt, hr.sep, hr.fams⟩,
    ⟨Nat.le_refl _, ha.size_le, fun _ _ => rfl, Le.refl _, fun b B hb => .inl ⟨B, hb, id⟩, ha.frame, ha.os, ha.tape, ha.output⟩⟩

mutual
/-- A value that names no block. -/
def AV.free : AV → Bool
  | .bool _ => true
  | .int _ _ => true
  | .str _ => true
  | .nilp => true
  | .nils => true
  | .nilm => true
  | .nilf => true
  | .nili => true
  | .agg as => freeL as
  | .tup as => freeL as
  | _ => false
def freeL : List AV → Bool
  | [] => true
  | a :: r => a.free && freeL r
end

mutual
theorem VRel.free_any : ∀ {a : AV} {v : Value}, a.free = true → VRel ν a v → VRel μ a v
  | _, _, _, .bool b => .bool b
  | _, _, _, .int k n => .int k n
  | _, _, _, .str s => .str s
  | _, _, _, .nilp => .nilp
  | _, _, hf, .ptr _ => by simp [AV.free] at hf
  | _, _, _, .nils => .nils
  | _, _, hf, .sl .. => by simp [AV.free] at hf
  | _, _, _, .nilm => .nilm
  | _, _, hf, .map _ => by simp [AV.free] at hf
  | _, _, hf, .fn _ _ => by simp [AV.free] at hf
  | _, _, _, .nilf => .nilf
  | _, _, hf, .iface _ => by simp [AV.free] at hf
  | _, _, _, .nili => .nili
  | _, _, hf, .agg h => .agg (VRels.free_any (by simpa [AV.free] using hf) h)
  | _, _, hf, .tup h => .tup (VRels.free_any (by simpa [AV.free] using hf) h)
theorem VRels.free_any : ∀ {as : List AV} {vs : List Value}, freeL as = true → VRels ν as vs → VRels μ as vs
  | _, _, _, .nil => .nil
  | _, _, hf, .cons h t => .cons (VRel.free_any (by simp [freeL] at hf; exact hf.1) h) (VRels.free_any (by simp [freeL] at hf; exact hf.2) t)
end
end
end
end Go.Proofs.Ytllldiokcnheiaa.Ab

namespace Go.Proofs.Ytllldiokcnheiaa.Ab
noncomputable section
section
variable {P : Program} {O : CallF} {G N K : Nat} {μ ν : Places} {h h' : AH} {w w' : World}

/-- One call on plain values, as the model's. -/
def Fact (P : Program) (G : Nat) (f : FuncId) (args : List AV) (h : AH) (v : AV) (h' : AH) : Prop :=
  ∀ (μ : Places) (w : World) (vs : List Value), RelH μ h w → VRels μ args vs → GRel μ G → Fresh μ h h' →
    (callFunc f vs.toArray).run P w = .ok (.enter f vs.toArray) w ∧
    Calls P f vs.toArray w fun e w' => ∃ ν u, e = .returned u ∧ VRel ν v u ∧ RelH ν h' w' ∧ Adv μ h w ν h' w'

theorem callOk_of (hx : ∀ f args h v h', O f args h = some (v, h') → Fact P G f args h v h') : CallOk P G O := fun f args h v h' hc => hx f args h v h' hc

def AH.from (h : AH) (M : Nat) : AH := ⟨h.blocks, h.fams, M⟩

theorem RelH.from (hr : RelH μ h w) {M : Nat} (hM : h.next ≤ M) : RelH μ (h.from M) w :=
  ⟨hr.rel, fun b B hb => Nat.lt_of_lt_of_le (hr.lt b B hb) hM, Nat.lt_of_lt_of_le hr.pos hM, fun b cs f hb => Nat.lt_of_lt_of_le (hr.famlt b cs f hb) hM, hr.sep, hr.fams⟩

/-- How a body may end. -/
def Ends (P : Program) (fn : Func) (v : AV) (h : AH) : Ex → Fr → AH → Prop := fun e F' h' => (e = .normal ∨ e = .ret) ∧ finishA P fn F' h' = some (v, h') ∧ Keeps h h'

/-- A call whose result names no block, and that leaves what there is as it is. -/
theorem fact_free (hO : CallOk P G O) (hOn : CallNext O) (hm : P.follows .mixedOrders = true) (hnm : Named P) {f : FuncId} {fn : Func} {c : Code} {args : List AV} {v : AV} (K : Nat)
    (hf : P.funcs[f]? = some fn) (hb : fn.body = some c) (hle : args.length ≤ fn.ntmps) (hv : v.free = true)
    (hev : ∀ M, h.next ≤ M → Ev P O G fn.ntmps K c ⟨[], initA K args 0 .e⟩ (h.from M) (Ends P fn v h)) : Fact P G f args h v h := by
  intro μ w vs hr hvs hg hfr
  refine ⟨callFunc_run hnm hf hb _ _, ?_⟩
  obtain ⟨M, hM⟩ := hg.bound
  obtain ⟨n, e, F1, h1, he, hor, hfin, hk⟩ := hev (max M h.next) (by omega)
  have hr2 := hr.from (M := max M h.next) (by omega)
  have hok := enter_ok (K := K) hr2 hvs hg hle
  refine calls_of_wp hf hb ((sound_all hO hOn draw_ok hm hnm n).1 _ _ _ _ _ _ _ _ he μ _ w _ hok (fun b h1 _ => hM b (by have : max M h.next ≤ b := h1; omega)) fun a' w' ⟨ν, k1, k2⟩ => ?_)
  obtain ⟨_, u, h3, h4⟩ := finishA_run k1.rel k1.fr hfin
  obtain ⟨g1, g2⟩ := RelH.hide hr2 k1.rel k2 hk
  have hend : ∃ ν u', Ending.returned u = .returned u' ∧ VRel ν v u' ∧ RelH ν h w' ∧ Adv μ h w ν h w' :=
    ⟨μ, u, rfl, VRel.free_any hv h4, ⟨g1.rel, hr.lt, hr.pos, hr.famlt, g1.sep, g1.fams⟩,
      ⟨Nat.le_refl _, g2.size_le, fun _ _ => rfl, Le.refl _, fun b B hb => .inl ⟨B, hb, id⟩, g2.frame, g2.os, g2.tape, g2.output⟩⟩
  rcases hor with rfl | rfl
  · exact bodyPost_end h3 k1.df hend
  · exact bodyPost_ret h3 k1.df hend

/-- Two lists of answers. -/
def orO (O O' : CallF) : CallF := fun f args h =>
  match O f args h with
  | some r => some r
  | none => O' f args h

theorem orO_ok {O O' : CallF} (h1 : CallOk P G O) (h2 : CallOk P G O') : CallOk P G (orO O O') := fun f args h v h' hc => by
  unfold orO at hc
  split at hc
  · rename_i r hr
    cases hc; exact h1 _ _ _ _ _ hr
  · exact h2 _ _ _ _ _ hc

theorem orO_next {O O' : CallF} (h1 : CallNext O) (h2 : CallNext O') : CallNext (orO O O') := fun f args h v h' hc => by
  unfold orO at hc
  split at hc
  · rename_i r hr
    cases hc; exact h1 _ _ _ _ _ hr
  · exact h2 _ _ _ _ _ hc
end
end
end Go.Proofs.Ytllldiokcnheiaa.Ab

namespace Go.Proofs.Ytllldiokcnheiaa.Ab
noncomputable section
section
variable {P : Program} {O : CallF} {G N K : Nat} {call : CallF} {F : Fr} {h : AH} {R : Ex → Fr → AH → Prop}

theorem putA_lt {F F' : Fr} {d : Option Tmp} {x : AV} (hp : putA N F d x = some F') (hl : ∀ t y, lookL F.loc t = some y → t < N) : ∀ t y, lookL F'.loc t = some y → t < N := by
  unfold putA at hp
  split at hp
  · cases hp; exact hl
  · rename_i u
    split at hp <;> cases hp
    rename_i hle
    have hle : u < N := Nat.le_of_ble_eq_true hle
    intro t y hy
    rw [Fr.set, lookL_cons] at hy
    split at hy
    · rename_i e; subst e; exact hle
    · exact hl t y hy

theorem runOps_wrote {ops : List Oper} {F₀ : Fr} : ∀ {l : List Oper} {F F1 : Fr} {h h1 : AH}, runOps P G call N ops l F h = some (F1, h1) → Wrote ops F₀ F → (∀ t y, lookL F.loc t = some y → t < N) → (∀ o ∈ l, o ∈ ops) →
    Wrote ops F₀ F1 ∧ ∀ t y, lookL F1.loc t = some y → t < N
  | [], F, F1, h, h1, hr, hw, hl, _ => by cases hr; exact ⟨hw, hl⟩
  | o :: r, F, F1, h, h1, hr, hw, hl, hm => by
    rw [runOps_cons] at hr
    split at hr <;> try (cases hr; done)
    split at hr <;> try (cases hr; done)
    rename_i F' hp
    exact runOps_wrote hr (hw.put (hm o (by simp)) hp) (putA_lt hp hl) (fun o ho => hm o (by simp [ho]))

theorem bit_all {t : Nat} (h : t < N) : bit (2 ^ N - 1) t = true := by rw [bit_eq]; simp [h]

theorem flush_all {ops : List Oper} {F₀ F1 : Fr} (hw : Wrote ops F₀ F1) (hl : ∀ t y, lookL F1.loc t = some y → t < N) (t : Nat) : (F1.flush (keeps (2 ^ N - 1) ops)).get t = F1.get t := by
  have e : (F1.flush (keeps (2 ^ N - 1) ops)).get t = (keepL F1.loc (keeps (2 ^ N - 1) ops) F1.far).get t := rfl
  rw [e, get_keepL]
  unfold Fr.get
  cases hx : lookL F1.loc t with
  | none => simp
  | some x => rw [if_pos (mem_keeps.2 ⟨bit_all (hl t x hx), hw.2 t x hx⟩)]

/-- A region; behind it any frame whose slots are those that the operations left. -/
theorem Ev.step {id : Nat} {ops : Array Oper} {n : Nat} {F1 : Fr} {h1 : AH} (hF : F.loc = []) (hr : runOps P G (callA P O G n) N ops.toList ops.toList F h = some (F1, h1))
    (hR : ∀ F2 : Fr, F2.loc = [] → (∀ t, F2.get t = F1.get t) → R .normal F2 h1) : Ev P O G N (2 ^ N - 1) (.region id ops false) F h R := by
  have hw := runOps_wrote hr (F₀ := F) ⟨rfl, fun t x hx => by rw [hF] at hx; cases hx⟩ (fun t x hx => by rw [hF] at hx; cases hx) (fun o ho => ho)
  exact Ev.region hr (hR _ rfl (flush_all hw.1 hw.2))
end
end
end Go.Proofs.Ytllldiokcnheiaa.Ab
