/- Maps, one operation, code and calls on plain values: one operation is shown to follow the model's, for every world that the plain memory stands for. -/
import Derived.Test.YtllldiokcnheiaaAb2

namespace Go.Proofs.Ytllldiokcnheiaa.Ab
noncomputable section
section
variable {P : Program} {w : World} {μ : Places} {h h' : AH}

def allInts : List AV → Bool
  | [] => true
  | .int _ _ :: r => allInts r
  | _ => false

/-- What kind of key: an integer, or an array of so many integers. -/
inductive KK where
  | int
  | arr (len : Nat)

def keyKind (P : Program) (t : TypeId) : Option KK :=
  match P.underlying t with
  | some (.int _) => some .int
  | some (.array len e) =>
    match isIntT P e, szA P e with
    | true, some 1 => some (.arr len)
    | _, _ => none
  | _ => none

def keyOk (kk : KK) (k : AV) : Bool :=
  match kk, k with
  | .int, .int _ _ => true
  | .arr len, .agg as => match Nat.beq as.length len with
    | true => allInts as
    | false => false
  | _, _ => false

theorem checkInts_loop {e : TypeId} {k0 : IntKind} (he : P.underlying e = some (.int k0)) (hs : szA P e = some 1) (em : Bool) (d : Nat) (xs : Array Value) (w : World) :
    ∀ (as : List AV) (vs : List Value) (i : Nat), allInts as = true → VRels μ as vs → (∀ (j : Nat) (v : Value), vs[j]? = some v → xs[i + j]? = some v) →
      (forIn (List.range' i vs.length) PUnit.unit (fun i _ => do
        let n ← sizeOf e
        let a ← part e xs (i * n)
        Instr.checkKey em (d + 1) e a
        pure (.yield PUnit.unit)) : Sem PUnit).run P w = .ok PUnit.unit w
  | [], _, _, _, .nil, _ => by simp
  | a :: r, _, i, h, .cons (v := v) (vs := vs) hv hvs, hx => by
    unfold allInts at h
    split at h
    · rename_i hh; cases hh
    · rename_i k n r' hh
      cases hh
      cases hv
      have h1 := run_part_one (P := P) he xs i _ (by simpa using hx 0 _ rfl) w
      have h2 : (Instr.checkKey em (d + 1) e (.int k n)).run P w = .ok () w := by simp [Instr.checkKey, run_underlying he]
      have ih := checkInts_loop he hs em d xs w r vs (i + 1) h hvs (fun j v hj => by have := hx (j + 1) v (by simpa using hj); rwa [show i + (j + 1) = i + 1 + j by omega] at this)
      simp only [List.length_cons, List.range'_succ, List.forIn_cons, Sem.run_bind, run_szA hs, Nat.mul_one, h1, h2, Result.andThen_ok, Sem.run_pure]
      simpa using ih
    · cases h

theorem keyOk_int {k : AV} (h : keyOk .int k = true) : ∃ i n, k = .int i n := by
  cases k <;> first | exact ⟨_, _, rfl⟩ | (simp [keyOk] at h)

theorem keyOk_arr {k : AV} {len : Nat} (h : keyOk (.arr len) k = true) : ∃ as, k = .agg as ∧ as.length = len ∧ allInts as = true := by
  cases k <;> try (simp [keyOk] at h; done)
  rename_i as
  simp only [keyOk] at h
  split at h
  · rename_i hl; exact ⟨as, rfl, Nat.eq_of_beq_eq_true hl, h⟩
  · cases h

theorem keyKind_spec {t : TypeId} {kk : KK} (h : keyKind P t = some kk) :
    match kk with
    | .int => ∃ k0, P.underlying t = some (.int k0)
    | .arr len => ∃ e k0, P.underlying t = some (.array len e) ∧ P.underlying e = some (.int k0) ∧ szA P e = some 1 := by
  unfold keyKind at h
  split at h <;> try cases h
  · rename_i k0 hu; exact ⟨k0, hu⟩
  · rename_i len e hu
    split at h <;> cases h
    rename_i h1 h2
    obtain ⟨k0, hk0⟩ := isIntT_eq h1
    exact ⟨e, k0, hu, hk0, h2⟩

theorem checkKey_run {t : TypeId} {kk : KK} {k : AV} {vk : Value} (hkk : keyKind P t = some kk) (hok : keyOk kk k = true) (hk : VRel μ k vk) (em : Bool) (w : World) :
    (Instr.checkKey em 10000 t vk).run P w = .ok () w := by
  have hsp := keyKind_spec hkk
  have gen : ∀ d, (Instr.checkKey em (d + 2) t vk).run P w = .ok () w := by
    intro d
    cases kk with
    | int =>
      obtain ⟨k0, hu⟩ := hsp
      obtain ⟨i, n, rfl⟩ := keyOk_int hok
      cases hk
      simp [Instr.checkKey, run_underlying hu]
    | arr len =>
      obtain ⟨e, k0, hu, hk0, h2⟩ := hsp
      obtain ⟨as, rfl, hlen, hall⟩ := keyOk_arr hok
      cases hk with
      | agg hs =>
        rename_i xs
        have hl := checkInts_loop (P := P) hk0 h2 em d xs.toArray w as xs 0 hall hs (by simp)
        rw [← hs.length, hlen] at hl
        unfold Instr.checkKey
        simp only [Sem.run_bind, run_underlying hu, Result.andThen_ok]
        rw [Std.Legacy.Range.forIn_eq_forIn_range']
        simp only [Std.Legacy.Range.size]
        rw [show (len - 0 + 1 - 1) / 1 = len by simp]
        rw [hl]; rfl
  exact gen 9998

/-! ### Finding a key -/

def sameKey : AV → AV → Option Bool
  | .int k a, .int k' b => match decide (k = k') with
    | true => some (eqF a b)
    | false => none
  | .agg as, .agg bs => eqInts as bs
  | _, _ => none

/-- The place of a key. -/
def findA (k : AV) : List (AV × AV × Nat) → Option (Option Nat)
  | [] => some none
  | (k', _, _) :: r =>
    match sameKey k k' with
    | some true => some (some 0)
    | some false => match findA k r with
      | some (some i) => some (some (Nat.succ i))
      | x => x
    | none => none

def foundAt (ces : List MapEntry) (j : Nat) : Option Nat → Option (Nat × Value)
  | none => none
  | some i => some (j + i, ((ces[i]?).map (·.val)).getD undef)

theorem foundAt_succ (e : MapEntry) (ces : List MapEntry) (j : Nat) (r : Option Nat) : foundAt ces (j + 1) r = foundAt (e :: ces) j (r.map Nat.succ) := by
  cases r with
  | none => rfl
  | some i => simp [foundAt]; omega

theorem findA_lt {k : AV} : ∀ {es : List (AV × AV × Nat)} {i : Nat}, findA k es = some (some i) → i < es.length
  | [], i, h => by cases h
  | (k', v, n) :: r, i, h => by
    unfold findA at h
    split at h <;> try cases h
    · simp
    · split at h
      · rename_i i' hi
        cases h
        have := findA_lt hi
        simp; omega
      · rename_i hne
        exact absurd h (hne i)

theorem sameKey_int {i : IntKind} {n : Int} {k' : AV} {b : Bool} (h : sameKey (.int i n) k' = some b) : ∃ m, k' = .int i m ∧ b = (n == m) := by
  cases k' <;> simp only [sameKey] at h <;> try cases h
  rename_i i' m
  split at h <;> cases h
  rename_i hk
  have hk' := of_decide_eq_true hk
  subst hk'
  exact ⟨m, rfl, eqF_eq n m⟩

theorem findA_cons {k k' v : AV} {n : Nat} {r : List (AV × AV × Nat)} {o : Option Nat} (h : findA k ((k', v, n) :: r) = some o) :
    (sameKey k k' = some true ∧ o = some 0) ∨ (sameKey k k' = some false ∧ ∃ o', findA k r = some o' ∧ o = o'.map Nat.succ) := by
  unfold findA at h
  split at h <;> try cases h
  · exact .inl ⟨by assumption, rfl⟩
  · right
    refine ⟨by assumption, ?_⟩
    split at h
    · rename_i i hi
      cases h
      exact ⟨some i, hi, rfl⟩
    · rename_i x hne
      cases o with
      | none => exact ⟨none, h, rfl⟩
      | some i => exact absurd h (hne i)

theorem findNow_int {k0 : IntKind} {i : IntKind} {n : Int} : ∀ {es : List (AV × AV × Nat)} {ces : List MapEntry} {j : Nat} {o : Option Nat}, findA (.int i n) es = some o → ERel μ es ces →
    Instr.findNow (.int k0) (.int i n) ces j = some (foundAt ces j o)
  | [], _, j, o, h, .nil => by cases h; rfl
  | (k', v, b) :: es, _, j, o, h, .cons (key := key) (val := val) (cs := cs) hk hv hes => by
    rcases findA_cons h with ⟨h1, rfl⟩ | ⟨h1, o', h2, rfl⟩
    · obtain ⟨m, rfl, hb⟩ := sameKey_int h1
      cases hk
      simp only [Instr.findNow, Instr.sameNow, if_pos, ← hb]
      simp [foundAt]
    · obtain ⟨m, rfl, hb⟩ := sameKey_int h1
      cases hk
      simp only [Instr.findNow, Instr.sameNow, if_pos, ← hb]
      rw [findNow_int h2 hes]
      rw [← foundAt_succ]

theorem sameKey_arr {as : List AV} {k' : AV} {b : Bool} (h : sameKey (.agg as) k' = some b) : ∃ bs, k' = .agg bs ∧ eqInts as bs = some b := by
  cases k' <;> simp only [sameKey] at h <;> try cases h
  exact ⟨_, rfl, h⟩

theorem findAsking_arr {t e : TypeId} {len : Nat} {k0 : IntKind} (ht : P.underlying t = some (.array len e)) (he : P.underlying e = some (.int k0)) (hs : szA P e = some 1) {as : List AV} {vs : List Value}
    (hl : as.length = len) (hv : VRels μ as vs) (w : World) : ∀ {es : List (AV × AV × Nat)} {ces : List MapEntry} {j : Nat} {o : Option Nat}, findA (.agg as) es = some o → ERel μ es ces →
    (Instr.findAsking t (.agg vs.toArray) ces j).run P w = .ok (foundAt ces j o) w
  | [], _, j, o, h, .nil => by cases h; rfl
  | (k', v, b) :: es, _, j, o, h, .cons (key := key) (val := val) (cs := cs) hk hvv hes => by
    have eqd : ∀ vx vy, Op.equal t vx vy = Op.equalIn (9998 + 2) t vx vy := fun _ _ => rfl
    rcases findA_cons h with ⟨h1, rfl⟩ | ⟨h1, o', h2, rfl⟩
    · obtain ⟨bs, rfl, hb⟩ := sameKey_arr h1
      cases hk with
      | agg hks =>
        have := run_eqArr ht he hs 9998 hb hv hks hl w
        rw [← eqd] at this
        simp [Instr.findAsking, this, foundAt]
    · obtain ⟨bs, rfl, hb⟩ := sameKey_arr h1
      cases hk with
      | agg hks =>
        have := run_eqArr ht he hs 9998 hb hv hks hl w
        rw [← eqd] at this
        have ih := findAsking_arr ht he hs hl hv w (j := j + 1) h2 hes
        simp only [Instr.findAsking, Sem.run_bind, this, Result.andThen_ok, Bool.false_eq_true, if_false, ih]
        rw [← foundAt_succ]

theorem findNow_arr {len : Nat} {e : TypeId} (as : Array Value) : ∀ (ces : List MapEntry) (j : Nat), Instr.findNow (.array len e) (.agg as) ces j = none ∨ ces = []
  | [], _ => .inr rfl
  | _ :: _, _ => .inl rfl

theorem findKey_run {t : TypeId} {kk : KK} {k : AV} {vk : Value} {es : List (AV × AV × Nat)} {ces : List MapEntry} {o : Option Nat} (hkk : keyKind P t = some kk) (hok : keyOk kk k = true) (hk : VRel μ k vk)
    (hf : findA k es = some o) (he : ERel μ es ces) (w : World) : (Instr.findKey t vk ces).run P w = .ok (foundAt ces 0 o) w := by
  have hsp := keyKind_spec hkk
  cases kk with
  | int =>
    obtain ⟨k0, hu⟩ := hsp
    obtain ⟨i, n, rfl⟩ := keyOk_int hok
    cases hk
    simp [Instr.findKey, run_underlying hu, findNow_int hf he]
  | arr len =>
    obtain ⟨e, k0, hu, hk0, h2⟩ := hsp
    obtain ⟨as, rfl, hlen, hall⟩ := keyOk_arr hok
    cases hk with
    | agg hs =>
      have ha := findAsking_arr hu hk0 h2 hlen hs w (j := 0) hf he
      rename_i xs
      rcases findNow_arr (len := len) (e := e) xs.toArray ces 0 with h0 | h0
      · simp only [Instr.findKey, Sem.run_bind, run_underlying hu, Result.andThen_ok, h0]
        exact ha
      · subst h0
        cases he
        cases hf
        simp [Instr.findKey, run_underlying hu, Instr.findNow, foundAt]

/-! ### The operations on maps -/

def makeMapA (h : AH) : AV × AH := (.map h.next, h.newObj (.map [] 0))

theorem makeMapA_run {t : TypeId} {r : Option Value} {a : AV} (hr : RelH μ h w) (hm : makeMapA h = (a, h')) (hf : Fresh μ h h') (hn : r = none) : Did P μ h w (Instr.makeMap t r) a h' := by
  cases hm
  subst hn
  have hnx : μ h.next = none := hf _ (Nat.le_refl _) (Nat.lt_succ_self _)
  obtain ⟨g1, g2⟩ := hr.newObj hnx (B := .map [] 0) rfl (.map #[] 0) (fun ν L hle hL ho hb => ⟨L, #[], hL, by rw [hb]; exact heap_alloc_new _ _, .nil⟩)
  exact ⟨_, _, _, rfl, .map (upd_same μ h.next _), g1, g2⟩

def mapAt (x : AV) (h : AH) : Option (List (AV × AV × Nat) × Nat) :=
  match x with
  | .map b => match h.at b with
    | some (.map es c) => some (es, c)
    | _ => none
  | _ => none

def kv (P : Program) (t : TypeId) : Option (KK × TypeId) :=
  match P.underlying t with
  | some (.map k e) => match keyKind P k with
    | some kk => some (kk, e)
    | none => none
  | _ => none

theorem kv_spec {t e : TypeId} {kk : KK} (h : kv P t = some (kk, e)) : ∃ k, P.underlying t = some (.map k e) ∧ keyKind P k = some kk := by
  unfold kv at h
  split at h <;> try cases h
  rename_i k e' hu
  split at h <;> cases h
  rename_i hkk
  exact ⟨k, hu, hkk⟩

def lookupA (P : Program) (t : TypeId) (x k : AV) (ok : Bool) (h : AH) : Option AV :=
  match kv P t with
  | none => none
  | some (kk, e) =>
    match keyOk kk k, (match x with | .nilm => some ([], 0) | x => mapAt x h) with
    | true, some (es, _) =>
      match findA k es with
      | none => none
      | some (some i) => match es[i]? with
        | some (_, v, _) => match ok with
          | true => some (.tup [v, .bool true])
          | false => some v
        | none => none
      | some none => match zeroA P e with
        | some z => match ok with
          | true => some (.tup [z, .bool false])
          | false => some z
        | none => none
    | _, _ => none

theorem ERel.get : ∀ {es : List (AV × AV × Nat)} {cs : List MapEntry}, ERel μ es cs → ∀ (i : Nat) (k v : AV) (n : Nat), es[i]? = some (k, v, n) → ∃ e, cs[i]? = some e ∧ VRel μ k e.key ∧ VRel μ v e.val ∧ e.born = n
  | _, _, .nil, i, _, _, _, h => by simp at h
  | _, _, .cons hk hv _, 0, k, v, n, h => by simp at h; obtain ⟨rfl, rfl, rfl⟩ := h; exact ⟨_, rfl, hk, hv, rfl⟩
  | _, _, .cons _ _ t, i + 1, k, v, n, h => by simpa using t.get i k v n (by simpa using h)

theorem lookupA_run {t : TypeId} {x k a : AV} {vx vk : Value} {ok : Bool} (hr : RelH μ h w) (hx : VRel μ x vx) (hk : VRel μ k vk) (hl : lookupA P t x k ok h = some a) :
    ∃ v, (Instr.lookup t vx vk ok).run P w = .ok v w ∧ VRel μ a v := by
  unfold lookupA at hl
  split at hl <;> try cases hl
  rename_i kk e hkv
  obtain ⟨kt, hu, hkk⟩ := kv_spec hkv
  split at hl <;> try cases hl
  rename_i es c hok hes
  have hent : ∃ ces : Array MapEntry, ERel μ es ces.toList ∧ ((vx = .map none ∧ ces = #[]) ∨ ∃ r c', vx = .map (some r) ∧ w.heap[r]? = some (.map ces c')) := by
    split at hes
    · cases hes; cases hx; exact ⟨#[], .nil, .inl ⟨rfl, rfl⟩⟩
    · unfold mapAt at hes
      split at hes <;> try cases hes
      rename_i b
      split at hes <;> cases hes
      rename_i hb
      obtain ⟨L, ces, hL, hh, he⟩ := hr.rel _ _ hb
      cases hx with
      | map hM =>
        rw [hL] at hM; cases hM
        exact ⟨ces, he, .inr ⟨_, _, rfl, hh⟩⟩
  obtain ⟨ces, he, hvx⟩ := hent
  have hck := checkKey_run (P := P) hkk hok hk ces.isEmpty w
  split at hl <;> try cases hl
  · rename_i i hfi
    have hfk := findKey_run (P := P) hkk hok hk hfi he w
    split at hl <;> try cases hl
    rename_i k' v n hi
    obtain ⟨en, hen, _, hval, _⟩ := he.get i k' v n hi
    have hfo : foundAt ces.toList 0 (some i) = some (i, en.val) := by simp at hen; simp [foundAt, hen]
    rw [hfo] at hfk
    have hbase : (Instr.lookup t vx vk ok).run P w = .ok (if ok then .tuple #[en.val, .bool true] else en.val) w := by
      rcases hvx with ⟨rfl, rfl⟩ | ⟨r, c', rfl, hh⟩
      · simp at hen
      · simp [Instr.lookup, run_underlying hu, getObj, Sem.run, hh, hck, hfk]
    cases ok with
    | true => cases hl; exact ⟨_, hbase, by simpa using VRel.tup (.cons hval (.cons (.bool true) .nil))⟩
    | false => cases hl; exact ⟨_, hbase, by simpa using hval⟩
  · rename_i hfi
    have hfk := findKey_run (P := P) hkk hok hk hfi he w
    split at hl <;> try cases hl
    rename_i z hz
    obtain ⟨zv, hzv, hzrel⟩ := run_zeroA hz w μ
    have hfo : foundAt ces.toList 0 none = none := rfl
    rw [hfo] at hfk
    have hbase : (Instr.lookup t vx vk ok).run P w = .ok (if ok then .tuple #[zv, .bool false] else zv) w := by
      rcases hvx with ⟨rfl, rfl⟩ | ⟨r, c', rfl, hh⟩
      · simp at hck hfk
        simp [Instr.lookup, run_underlying hu, hck, hfk, hzv]
      · simp [Instr.lookup, run_underlying hu, getObj, Sem.run, hh, hck, hfk, hzv]
    cases ok with
    | true => cases hl; exact ⟨_, hbase, by simpa using VRel.tup (.cons hzrel (.cons (.bool false) .nil))⟩
    | false => cases hl; exact ⟨_, hbase, by simpa using hzrel⟩

/-- A block that is a map, turned. -/
def AH.setMap (h : AH) (b : Nat) (es : List (AV × AV × Nat)) (c : Nat) : AH := ⟨h.blocks.set b (.map es c), h.fams, h.next⟩

theorem RelH.setMap (hr : RelH μ h w) {b : Nat} {es es' : List (AV × AV × Nat)} {c c' : Nat} (hb : h.at b = some (.map es c)) {ces' : Array MapEntry} (he : ERel μ es' ces'.toList) {L : Loc} (hL : μ b = some L) :
    RelH μ (h.setMap b es' c') { w with heap := w.heap.setIfInBounds L.blk (.map ces' c') } ∧ Adv μ h w μ (h.setMap b es' c') { w with heap := w.heap.setIfInBounds L.blk (.map ces' c') } := by
  have hat : ∀ j, (h.setMap b es' c').at j = if j = b then some (.map es' c') else h.at j := fun j => PM.get_set _ _ _ _
  have hlt := (hr.rel _ _ hb).lt hL
  have hother : ∀ j B M, j ≠ b → h.at j = some B → μ j = some M → M.blk ≠ L.blk := by
    intro j B M hne hj hM he
    obtain ⟨f, _, hf2, _⟩ := hr.sep j b B _ M L hj hb hne hM hL he
    cases hf2
  have hheap : ∀ k, k ≠ L.blk → (w.heap.setIfInBounds L.blk (.map ces' c'))[k]? = w.heap[k]? := fun k hk => by
    rw [Array.getElem?_setIfInBounds_ne (Ne.symm hk)]
  refine ⟨⟨?_, ?_, hr.pos, ?_, ?_, ?_⟩, ⟨Nat.le_refl _, by simp, fun _ _ => rfl, Le.refl _, ?_, ?_, rfl, rfl, rfl⟩⟩
  · intro j B hj
    rw [hat] at hj
    split at hj
    · rename_i e; subst e; cases hj
      exact ⟨L, ces', hL, by simp [hlt], he⟩
    · rename_i e
      obtain ⟨M, hM⟩ := (hr.rel j B hj).place
      exact (hr.rel j B hj).move (Le.refl _) hM (hheap _ (hother j B M e hj hM))
  · intro j B hj
    rw [hat] at hj
    split at hj
    · rename_i e; subst e; exact hr.lt _ _ hb
    · exact hr.lt _ _ hj
  · intro j cs' f' hj
    rw [hat] at hj
    split at hj
    · cases hj
    · exact hr.famlt _ _ _ hj
  · intro j d B D M N hj hd hne hM hN he
    rw [hat] at hj hd
    split at hj
    · rename_i e; subst e
      rw [if_neg (Ne.symm hne)] at hd
      rw [hL] at hM; cases hM
      exact absurd he.symm (hother d D N (Ne.symm hne) hd hN)
    · rename_i e
      split at hd
      · rename_i e'; subst e'
        rw [hL] at hN; cases hN
        exact absurd he (hother j B M e hj hM)
      · exact hr.sep j d B D M N hj hd hne hM hN he
  · intro j cs' f' hj hf'
    rw [hat] at hj
    split at hj
    · cases hj
    · exact hr.fams _ _ _ hj hf'
  · intro j B hj
    rw [hat] at hj
    split at hj
    · rename_i e; subst e; exact .inl ⟨_, hb, fun _ => trivial⟩
    · exact .inl ⟨B, hj, id⟩
  · intro k hk hno
    exact hheap k (Ne.symm (hno b _ L hb trivial hL))

def keyBits : AV → Bool
  | .int _ _ => true
  | .agg as => allInts as
  | _ => false

theorem keyOk_bits {kk : KK} {k : AV} (h : keyOk kk k = true) : keyBits k = true := by
  cases kk with
  | int => obtain ⟨i, n, rfl⟩ := keyOk_int h; rfl
  | arr len => obtain ⟨as, rfl, _, ha⟩ := keyOk_arr h; exact ha

def setVal : List (AV × AV × Nat) → Nat → AV → List (AV × AV × Nat)
  | [], _, _ => []
  | (k, _, n) :: r, 0, x => (k, x, n) :: r
  | e :: r, i + 1, x => e :: setVal r i x

theorem ERel.setVal : ∀ {es : List (AV × AV × Nat)} {cs : List MapEntry} (i : Nat) {x : AV} {vx : Value}, ERel μ es cs → VRel μ x vx → ERel μ (Ab.setVal es i x) (cs.modify i fun e => { e with val := vx })
  | _, _, i, _, _, .nil, _ => by cases i <;> exact .nil
  | _, _, 0, _, _, .cons hk _ t, hx => .cons hk hx t
  | _, _, i + 1, _, _, .cons hk hv t, hx => .cons hk hv (t.setVal i hx)

theorem ERel.snoc : ∀ {es : List (AV × AV × Nat)} {cs : List MapEntry} {k v : AV} {key val : Value} {n : Nat}, ERel μ es cs → VRel μ k key → VRel μ v val → ERel μ (es ++ [(k, v, n)]) (cs ++ [{ key, val, born := n }])
  | _, _, _, _, _, _, _, .nil, hk, hv => .cons hk hv .nil
  | _, _, _, _, _, _, _, .cons h1 h2 t, hk, hv => .cons h1 h2 (t.snoc hk hv)

end
end
end Go.Proofs.Ytllldiokcnheiaa.Ab

namespace Go.Proofs.Ytllldiokcnheiaa.Ab
noncomputable section
section
variable {P : Program} {w : World} {μ : Places} {h h' : AH}

theorem eqInts_true : ∀ {as bs : List AV}, eqInts as bs = some true → as = bs
  | [], [], _ => rfl
  | [], _ :: _, h => by simp [eqInts] at h
  | a :: r, [], h => by cases a <;> simp [eqInts] at h
  | a :: r, b :: s, h => by
    cases a <;> cases b <;> simp only [eqInts] at h <;> try (cases h; done)
    split at h <;> try cases h
    rename_i hk
    have hk' := of_decide_eq_true hk
    subst hk'
    split at h
    · rename_i he
      have := eqF_true he
      subst this
      rw [eqInts_true h]
    · cases h

theorem sameKey_true {kk : KK} {k k' : AV} (hok : keyOk kk k = true) (h : sameKey k k' = some true) : k' = k := by
  cases kk with
  | int =>
    obtain ⟨i, n, rfl⟩ := keyOk_int hok
    obtain ⟨m, rfl, hb⟩ := sameKey_int h
    have : n = m := by simpa using hb.symm
    rw [this]
  | arr len =>
    obtain ⟨as, rfl, _, _⟩ := keyOk_arr hok
    obtain ⟨bs, rfl, hb⟩ := sameKey_arr h
    rw [eqInts_true hb]

theorem findA_some {kk : KK} {k : AV} (hok : keyOk kk k = true) : ∀ {es : List (AV × AV × Nat)} {i : Nat}, findA k es = some (some i) → ∃ v n, es[i]? = some (k, v, n)
  | [], i, h => by cases h
  | (k', v, n) :: r, i, h => by
    rcases findA_cons h with ⟨h1, h2⟩ | ⟨h1, o', h2, h3⟩
    · cases h2
      rw [sameKey_true hok h1]
      exact ⟨v, n, rfl⟩
    · cases o' with
      | none => cases h3
      | some i' =>
        cases h3
        obtain ⟨v', n', hi⟩ := findA_some hok h2
        exact ⟨v', n', by simpa using hi⟩

theorem ints_fun : ∀ {as : List AV} {vs ws : List Value}, allInts as = true → VRels μ as vs → VRels μ as ws → vs = ws
  | [], _, _, _, .nil, .nil => rfl
  | a :: r, _, _, h, .cons h1 t1, .cons h2 t2 => by
    cases a <;> simp only [allInts] at h <;> try (cases h; done)
    cases h1; cases h2
    rw [ints_fun h t1 t2]

theorem key_fun {kk : KK} {k : AV} {v v' : Value} (hok : keyOk kk k = true) (h1 : VRel μ k v) (h2 : VRel μ k v') : v = v' := by
  cases kk with
  | int => obtain ⟨i, n, rfl⟩ := keyOk_int hok; cases h1; cases h2; rfl
  | arr len =>
    obtain ⟨as, rfl, _, ha⟩ := keyOk_arr hok
    cases h1 with
    | agg g1 => cases h2 with
      | agg g2 => rw [ints_fun ha g1 g2]

theorem sameBits_list (d : Nat) : ∀ {as : List AV} {xs : List Value}, allInts as = true → VRels μ as xs → ∀ p ∈ xs.zip xs, Instr.sameBits d p.1 p.2 = true
  | [], _, _, .nil => by simp
  | a :: r, _, ha, .cons hh tt => by
    intro p hp
    simp only [List.zip_cons_cons, List.mem_cons] at hp
    cases a <;> simp only [allInts] at ha <;> try (cases ha; done)
    rcases hp with rfl | hp
    · cases hh; cases d <;> simp [Instr.sameBits]
    · exact sameBits_list d ha tt p hp

theorem sameBits_self {kk : KK} {k : AV} {v : Value} (hok : keyOk kk k = true) (h1 : VRel μ k v) : Instr.sameBits 10000 v v = true := by
  have gen : ∀ d, Instr.sameBits (d + 1) v v = true := by
    intro d
    cases kk with
    | int => obtain ⟨i, n, rfl⟩ := keyOk_int hok; cases h1; simp [Instr.sameBits]
    | arr len =>
      obtain ⟨as, rfl, _, ha⟩ := keyOk_arr hok
      cases h1 with
      | agg g1 =>
        rename_i xs
        simp only [Instr.sameBits, beq_self_eq_true, Bool.true_and, List.all_eq_true]
        intro p hp
        exact sameBits_list d ha g1 p (by simpa using hp)
  exact gen 9999

theorem ERel.setBoth : ∀ {es : List (AV × AV × Nat)} {cs : List MapEntry} (i : Nat) {k v x : AV} {n : Nat} {vk vx : Value}, ERel μ es cs → es[i]? = some (k, v, n) → VRel μ k vk → VRel μ x vx →
    ERel μ (Ab.setVal es i x) (cs.modify i fun e => { e with key := vk, val := vx })
  | _, _, i, _, _, _, _, _, _, .nil, h, _, _ => by simp at h
  | _, _, 0, _, _, _, _, _, _, .cons hk _ t, h, hvk, hx => by
    simp at h; obtain ⟨rfl, rfl, rfl⟩ := h
    exact .cons hvk hx t
  | _, _, i + 1, _, _, _, _, _, _, .cons hk hv t, h, hvk, hx => .cons hk hv (t.setBoth i (by simpa using h) hvk hx)

theorem ERel.setKey : ∀ {es : List (AV × AV × Nat)} {cs : List MapEntry} (i : Nat) {k v : AV} {n : Nat} {vk : Value}, ERel μ es cs → es[i]? = some (k, v, n) → VRel μ k vk →
    ERel μ es (cs.modify i fun e => { e with key := vk })
  | _, _, i, _, _, _, _, .nil, h, _ => by simp at h
  | _, _, 0, _, _, _, _, .cons hk hv t, h, hvk => by
    simp at h; obtain ⟨rfl, rfl, rfl⟩ := h
    exact .cons hvk hv t
  | _, _, i + 1, _, _, _, _, .cons hk hv t, h, hvk => .cons hk hv (t.setKey i (by simpa using h) hvk)

def updateA (P : Program) (t : TypeId) (m k x : AV) (h : AH) : Option AH :=
  match kv P t, m with
  | some (kk, _), .map b =>
    match h.at b with
    | some (.map es c) =>
      match keyOk kk k, findA k es with
      | true, some none => some (h.setMap b (es ++ [(k, x, c)]) (Nat.succ c))
      | true, some (some i) => some (h.setMap b (setVal es i x) c)
      | _, _ => none
    | _ => none
  | _, _ => none

theorem updateA_run {t : TypeId} {m k x : AV} {vm vk vx : Value} (hr : RelH μ h w) (hm : VRel μ m vm) (hk : VRel μ k vk) (hx : VRel μ x vx) (hu : updateA P t m k x h = some h') :
    ∃ w', (Instr.mapUpdate t vm vk vx).run P w = .ok () w' ∧ RelH μ h' w' ∧ Adv μ h w μ h' w' := by
  unfold updateA at hu
  split at hu <;> try cases hu
  rename_i kk e b hkv
  obtain ⟨kt, hut, hkk⟩ := kv_spec hkv
  split at hu <;> try cases hu
  rename_i es c hb
  obtain ⟨L, ces, hL, hh, he⟩ := hr.rel _ _ hb
  cases hm with
  | map hM =>
    rw [hL] at hM; cases hM
    split at hu <;> cases hu
    · rename_i hok hf
      have hck := checkKey_run (P := P) hkk hok hk false w
      have hfk := findKey_run (P := P) hkk hok hk hf he w
      have hfo : foundAt ces.toList 0 none = none := rfl
      rw [hfo] at hfk
      obtain ⟨g1, g2⟩ := hr.setMap hb (c' := c + 1) (ces' := ces.push { key := vk, val := vx, born := c }) (by simpa using he.snoc hk hx) hL
      refine ⟨_, ?_, g1, g2⟩
      simp [Instr.mapUpdate, run_underlying hut, getObj, setObj, Sem.run, hh, hck, hfk]
    · rename_i i hok hf
      have hck := checkKey_run (P := P) hkk hok hk false w
      have hfk := findKey_run (P := P) hkk hok hk hf he w
      obtain ⟨v0, n0, hi⟩ := findA_some hok hf
      obtain ⟨en, hen, hkey, hval, hborn⟩ := he.get i _ _ _ hi
      have hfo : foundAt ces.toList 0 (some i) = some (i, en.val) := by simp at hen; simp [foundAt, hen]
      rw [hfo] at hfk
      have hke : en.key = vk := key_fun hok hkey hk
      have hsb := sameBits_self (μ := μ) hok hk
      have hen' : ces[i]? = some en := by simpa using hen
      have hks : (Instr.keyThatStays vk vk).run P w = .ok vk w := by simp [Instr.keyThatStays, hsb]
      obtain ⟨g1, g2⟩ := hr.setMap hb (c' := c) (ces' := ces.modify i fun e => { e with key := vk, val := vx }) (by simpa using he.setBoth i hi hk hx) hL
      refine ⟨_, ?_, g1, g2⟩
      simp [Instr.mapUpdate, run_underlying hut, getObj, setObj, Sem.run, hh, hck, hfk, hen', hke, hks]

def mapEntryA (P : Program) (t : TypeId) (m k : AV) (h : AH) : Option (AV × AH) :=
  match kv P t, m with
  | some (kk, e), .map b =>
    match h.at b with
    | some (.map es c) =>
      match keyOk kk k, findA k es with
      | true, some none => match zeroA P e with
        | some z => some (.tup [z, .int .i64 (.ofNat c)], h.setMap b (es ++ [(k, z, c)]) (Nat.succ c))
        | none => none
      | true, some (some i) => match es[i]? with
        | some (_, v, n) => some (.tup [v, .int .i64 (.ofNat n)], h)
        | none => none
      | _, _ => none
    | _ => none
  | _, _ => none

theorem setIfInBounds_self {α : Type} (a : Array α) (i : Nat) (v : α) (h : a[i]? = some v) : a.setIfInBounds i v = a := by
  apply Array.ext
  · simp
  · intro j h1 h2
    rw [Array.getElem_setIfInBounds]
    split
    · rename_i e; subst e
      have := (Array.getElem?_eq_some_iff.1 h).2
      exact this.symm
    · rfl

theorem mapEntryA_run {t : TypeId} {m k a : AV} {vm vk : Value} (hr : RelH μ h w) (hm : VRel μ m vm) (hk : VRel μ k vk) (hu : mapEntryA P t m k h = some (a, h')) :
    ∃ v w', (Instr.mapEntry t vm vk).run P w = .ok v w' ∧ VRel μ a v ∧ RelH μ h' w' ∧ Adv μ h w μ h' w' := by
  unfold mapEntryA at hu
  split at hu <;> try cases hu
  rename_i kk e b hkv
  obtain ⟨kt, hut, hkk⟩ := kv_spec hkv
  split at hu <;> try cases hu
  rename_i es c hb
  obtain ⟨L, ces, hL, hh, he⟩ := hr.rel _ _ hb
  cases hm with
  | map hM =>
    rw [hL] at hM; cases hM
    split at hu <;> try cases hu
    · rename_i hok hf
      split at hu <;> cases hu
      rename_i z hz
      obtain ⟨zv, hzv, hzrel⟩ := run_zeroA hz w μ
      have hck := checkKey_run (P := P) hkk hok hk false w
      have hfk := findKey_run (P := P) hkk hok hk hf he w
      have hfo : foundAt ces.toList 0 none = none := rfl
      rw [hfo] at hfk
      obtain ⟨g1, g2⟩ := hr.setMap hb (c' := c + 1) (ces' := ces.push { key := vk, val := zv, born := c }) (by simpa using he.snoc hk hzrel) hL
      refine ⟨.tuple #[zv, goInt c], _, ?_, by simpa [goInt] using VRel.tup (.cons hzrel (.cons (.int .i64 (c : Int)) .nil)), g1, g2⟩
      simp [Instr.mapEntry, run_underlying hut, getObj, setObj, Sem.run, hh, hck, hfk, hzv]
    · rename_i i hok hf
      have hck := checkKey_run (P := P) hkk hok hk false w
      have hfk := findKey_run (P := P) hkk hok hk hf he w
      obtain ⟨v0, n0, hi⟩ := findA_some hok hf
      rw [hi] at hu
      cases hu
      obtain ⟨en, hen, hkey, hval, hborn⟩ := he.get i _ _ _ hi
      have hfo : foundAt ces.toList 0 (some i) = some (i, en.val) := by simp at hen; simp [foundAt, hen]
      rw [hfo] at hfk
      have hke : en.key = vk := key_fun hok hkey hk
      have hsb := sameBits_self (μ := μ) hok hk
      have hen' : ces[i]? = some en := by simpa using hen
      have hks : (Instr.keyThatStays vk vk).run P w = .ok vk w := by simp [Instr.keyThatStays, hsb]
      have hself : (h.setMap b es c) = ⟨h.blocks.set b (.map es c), h.fams, h.next⟩ := rfl
      obtain ⟨g1, g2⟩ := hr.setMap hb (es' := es) (c' := c) (ces' := ces.modify i fun e => { e with key := vk }) (by simpa using he.setKey i hi hk) hL
      have hat : ∀ j, (h.setMap b es c).at j = h.at j := fun j => by
        show (h.blocks.set b _).get j = _
        rw [PM.get_set]
        split
        · rename_i e; subst e; exact hb.symm
        · rfl
      refine ⟨.tuple #[en.val, goInt n0], { w with heap := w.heap.setIfInBounds L.blk (.map (ces.modify i fun e => { e with key := vk }) c) }, ?_, by simpa [goInt] using VRel.tup (.cons hval (.cons (.int .i64 (n0 : Int)) .nil)), ?_, ?_⟩
      rotate_left
      · exact ⟨fun b B hb => g1.rel b B (by rw [hat]; exact hb), fun b B hb => g1.lt b B (by rw [hat]; exact hb), g1.pos, fun b cs f hb => g1.famlt b cs f (by rw [hat]; exact hb),
          fun b c B C L M h1 h2 => g1.sep b c B C L M (by rw [hat]; exact h1) (by rw [hat]; exact h2), fun b cs f hb => g1.fams b cs f (by rw [hat]; exact hb)⟩
      · exact ⟨g2.next_le, g2.size_le, g2.agree, g2.le, fun b B hb => .inl ⟨B, hb, id⟩, g2.frame, g2.os, g2.tape, g2.output⟩
      · simp [Instr.mapEntry, run_underlying hut, getObj, setObj, Sem.run, hh, hck, hfk, hen', hke, hks, hborn]

def bornAt : List (AV × AV × Nat) → Int → Option Nat
  | [], _ => none
  | (_, _, n) :: r, s => match eqF (.ofNat n) s with
    | true => some 0
    | false => match bornAt r s with
      | some i => some (Nat.succ i)
      | none => none

theorem bornAt_spec : ∀ {es : List (AV × AV × Nat)} {cs : List MapEntry} {s : Int} {i : Nat}, ERel μ es cs → bornAt es s = some i → cs.findIdx? (fun e => (e.born : Int) == s) = some i
  | _, _, s, i, .nil, h => by cases h
  | _, _, s, i, .cons (n := n) hk hv t, h => by
    unfold bornAt at h
    split at h
    · rename_i hs
      cases h
      have := eqF_true hs
      simp [List.findIdx?_cons, ← this]
    · rename_i hs
      rw [eqF_eq] at hs
      split at h <;> cases h
      rename_i i' hi
      have ih := bornAt_spec t hi
      have hs' : (((n : Nat) : Int) == s) = false := hs
      simp [List.findIdx?_cons, hs', ih]

def entryStoreA (m s x : AV) (h : AH) : Option AH :=
  match m, s with
  | .map b, .int _ n =>
    match h.at b with
    | some (.map es c) => match bornAt es n with
      | some i => some (h.setMap b (setVal es i x) c)
      | none => none
    | _ => none
  | _, _ => none

theorem entryStoreA_run {t : TypeId} {m s x : AV} {vm vs vx : Value} (hr : RelH μ h w) (hm : VRel μ m vm) (hs : VRel μ s vs) (hx : VRel μ x vx) (hu : entryStoreA m s x h = some h') :
    ∃ w', (Instr.entryStore t vm vs vx).run P w = .ok () w' ∧ RelH μ h' w' ∧ Adv μ h w μ h' w' := by
  unfold entryStoreA at hu
  split at hu <;> try cases hu
  rename_i b k n
  split at hu <;> try cases hu
  rename_i es c hb
  split at hu <;> cases hu
  rename_i i hi
  obtain ⟨L, ces, hL, hh, he⟩ := hr.rel _ _ hb
  cases hm with
  | map hM =>
    rw [hL] at hM; cases hM
    cases hs
    have hf := bornAt_spec he hi
    have hf' : ces.findIdx? (fun e => (e.born : Int) == n) = some i := by
      rw [← hf, ← List.findIdx?_toArray]
    obtain ⟨g1, g2⟩ := hr.setMap hb (c' := c) (ces' := ces.modify i fun e => { e with val := vx }) (by simpa using he.setVal i hx) hL
    refine ⟨_, ?_, g1, g2⟩
    simp [Instr.entryStore, getObj, setObj, Sem.run, hh, asInt, asIntOf, hf']

/-! ### Iterators over strings -/

def rangeA (P : Program) (t : TypeId) (x : AV) (h : AH) : Option (AV × AH) :=
  match P.underlying t, x with
  | some .string, .str s => some (.ptr h.next 0, h.newObj (.it s 0))
  | _, _ => none

theorem rangeA_run {t : TypeId} {x a : AV} {vx : Value} (hr : RelH μ h w) (hx : VRel μ x vx) (hm : rangeA P t x h = some (a, h')) (hf : Fresh μ h h') : Did P μ h w (Instr.range t vx) a h' := by
  unfold rangeA at hm
  split at hm <;> cases hm
  rename_i s hu
  cases hx
  have hnx : μ h.next = none := hf _ (Nat.le_refl _) (Nat.lt_succ_self _)
  obtain ⟨g1, g2⟩ := hr.newObj hnx (B := .it s 0) rfl (.stringIter s 0) (fun ν L hle hL ho hb => ⟨L, hL, ho, by rw [hb]; exact heap_alloc_new _ _⟩)
  refine ⟨_, _, _, ?_, VRel.ptr (upd_same μ h.next _), g1, g2⟩
  simp [Instr.range, run_underlying hu]

def AH.setIt (h : AH) (b : Nat) (s : ByteArray) (p : Nat) : AH := ⟨h.blocks.set b (.it s p), h.fams, h.next⟩

theorem RelH.setIt (hr : RelH μ h w) {b : Nat} {s : ByteArray} {p p' : Nat} (hb : h.at b = some (.it s p)) {L : Loc} (hL : μ b = some L) (hLo : L.off = 0) :
    RelH μ (h.setIt b s p') { w with heap := w.heap.setIfInBounds L.blk (.stringIter s p') } ∧ Adv μ h w μ (h.setIt b s p') { w with heap := w.heap.setIfInBounds L.blk (.stringIter s p') } := by
  have hat : ∀ j, (h.setIt b s p').at j = if j = b then some (.it s p') else h.at j := fun j => PM.get_set _ _ _ _
  have hlt := (hr.rel _ _ hb).lt hL
  have hother : ∀ j B M, j ≠ b → h.at j = some B → μ j = some M → M.blk ≠ L.blk := by
    intro j B M hne hj hM he
    obtain ⟨f, _, hf2, _⟩ := hr.sep j b B _ M L hj hb hne hM hL he
    cases hf2
  have hheap : ∀ k, k ≠ L.blk → (w.heap.setIfInBounds L.blk (.stringIter s p'))[k]? = w.heap[k]? := fun k hk => by
    rw [Array.getElem?_setIfInBounds_ne (Ne.symm hk)]
  refine ⟨⟨?_, ?_, hr.pos, ?_, ?_, ?_⟩, ⟨Nat.le_refl _, by simp, fun _ _ => rfl, Le.refl _, ?_, ?_, rfl, rfl, rfl⟩⟩
  · intro j B hj
    rw [hat] at hj
    split at hj
    · rename_i e; subst e; cases hj
      exact ⟨L, hL, hLo, by simp [hlt]⟩
    · rename_i e
      obtain ⟨M, hM⟩ := (hr.rel j B hj).place
      exact (hr.rel j B hj).move (Le.refl _) hM (hheap _ (hother j B M e hj hM))
  · intro j B hj
    rw [hat] at hj
    split at hj
    · rename_i e; subst e; exact hr.lt _ _ hb
    · exact hr.lt _ _ hj
  · intro j cs' f' hj
    rw [hat] at hj
    split at hj
    · cases hj
    · exact hr.famlt _ _ _ hj
  · intro j d B D M N hj hd hne hM hN he
    rw [hat] at hj hd
    split at hj
    · rename_i e; subst e
      rw [if_neg (Ne.symm hne)] at hd
      rw [hL] at hM; cases hM
      exact absurd he.symm (hother d D N (Ne.symm hne) hd hN)
    · rename_i e
      split at hd
      · rename_i e'; subst e'
        rw [hL] at hN; cases hN
        exact absurd he (hother j B M e hj hM)
      · exact hr.sep j d B D M N hj hd hne hM hN he
  · intro j cs' f' hj hf'
    rw [hat] at hj
    split at hj
    · cases hj
    · exact hr.fams _ _ _ hj hf'
  · intro j B hj
    rw [hat] at hj
    split at hj
    · rename_i e; subst e; exact .inl ⟨_, hb, fun _ => trivial⟩
    · exact .inl ⟨B, hj, id⟩
  · intro k hk hno
    exact hheap k (Ne.symm (hno b _ L hb trivial hL))

/-- Only bytes below 128. -/
def nextA (x : AV) (str : Bool) (h : AH) : Option (AV × AH) :=
  match x, str with
  | .ptr b 0, true =>
    match h.at b with
    | some (.it s p) =>
      match Nat.ble (p + 1) s.size with
      | false => some (.tup [.bool false], h)
      | true => match Utf8.decode s p with
        | (c, n) => some (.tup [.bool true, .int .i64 (.ofNat p), .int .i32 c], h.setIt b s (p + n))
    | _ => none
  | _, _ => none

theorem nextA_run {t : TypeId} {x a : AV} {vx : Value} {str : Bool} (hr : RelH μ h w) (hx : VRel μ x vx) (hm : nextA x str h = some (a, h')) :
    ∃ v w', (Instr.next vx str t).run P w = .ok v w' ∧ VRel μ a v ∧ RelH μ h' w' ∧ Adv μ h w μ h' w' := by
  unfold nextA at hm
  split at hm <;> try cases hm
  rename_i b
  split at hm <;> try cases hm
  rename_i s p hb
  obtain ⟨L, hL, hLo, hh⟩ := hr.rel _ _ hb
  cases hx with
  | ptr hM =>
    rw [hL] at hM; cases hM
    split at hm
    · rename_i hle
      cases hm
      have hlt : ¬ p < s.size := fun h => by
        have : Nat.ble (p + 1) s.size = true := Nat.ble_eq_true_of_le h
        rw [this] at hle; cases hle
      refine ⟨.tuple #[.bool false], w, ?_, by simpa using VRel.tup (.cons (.bool false) .nil), hr, Adv.refl _ _ _⟩
      simp [Instr.next, hLo, getObj, Sem.run, hh, hlt]
    · rename_i hle
      have hlt : p < s.size := Nat.le_of_ble_eq_true hle
      split at hm
      rename_i c n hd
      cases hm
      obtain ⟨g1, g2⟩ := hr.setIt hb (p' := p + n) hL hLo
      refine ⟨.tuple #[.bool true, goInt p, .int .i32 c], _, ?_, by simpa [goInt] using VRel.tup (.cons (.bool true) (.cons (.int .i64 (p : Int)) (.cons (.int .i32 c) .nil))), g1, g2⟩
      simp [Instr.next, hLo, getObj, setObj, Sem.run, hh, hlt, hd]

end
end
end Go.Proofs.Ytllldiokcnheiaa.Ab

namespace Go.Proofs.Ytllldiokcnheiaa.Ab
noncomputable section
section
variable {P : Program} {w : World} {μ : Places} {h h' : AH}

/-- The slots that are known: those written last, and others. -/
structure Fr where
  loc : List (Nat × AV)
  far : PM AV

def look1 (k t : Nat) (a : AV) (r : Option AV) : Option AV :=
  match Nat.beq t k with
  | true => some a
  | false => r

def lookL (l : List (Nat × AV)) (k : Nat) : Option AV :=
  List.rec (motive := fun _ => Option AV) none (fun p _ ih => look1 k p.1 p.2 ih) l

def Fr.get (F : Fr) (t : Nat) : Option AV :=
  match lookL F.loc t with
  | some a => some a
  | none => F.far.get t

def Fr.set (F : Fr) (t : Nat) (a : AV) : Fr := ⟨(t, a) :: F.loc, F.far⟩

def keepL (loc : List (Nat × AV)) : List Nat → PM AV → PM AV
  | [], far => far
  | t :: r, far => match lookL loc t with
    | some a => keepL loc r (far.set t a)
    | none => keepL loc r far

/-- Only some slots are kept. -/
def Fr.flush (ks : List Nat) (F : Fr) : Fr := ⟨[], keepL F.loc ks F.far⟩

theorem lookL_cons (t k : Nat) (a : AV) (l : List (Nat × AV)) : lookL ((t, a) :: l) k = if k = t then some a else lookL l k := by
  show look1 k t a (lookL l k) = _
  unfold look1
  by_cases h : k = t
  · subst h; simp
  · have : Nat.beq t k = false := by rw [← Bool.not_eq_true, Nat.beq_eq]; exact fun e => h e.symm
    rw [if_neg h, this]

theorem Fr.get_set (F : Fr) (t k : Nat) (a : AV) : (F.set t a).get k = if k = t then some a else F.get k := by
  unfold Fr.get Fr.set
  dsimp only
  rw [lookL_cons]
  by_cases h : k = t
  · simp only [if_pos h]
  · simp only [if_neg h]

theorem get_keepL (loc : List (Nat × AV)) : ∀ (ks : List Nat) (far : PM AV) (k : Nat), (keepL loc ks far).get k = if k ∈ ks then (match lookL loc k with | some a => some a | none => far.get k) else far.get k
  | [], far, k => by simp [keepL]
  | t :: r, far, k => by
    unfold keepL
    split
    · rename_i b hb
      rw [get_keepL loc r, PM.get_set]
      by_cases h1 : k = t
      · subst h1; simp [hb]
      · simp [h1]
    · rename_i hb
      rw [get_keepL loc r]
      by_cases h1 : k = t
      · subst h1; simp [hb]
      · simp [h1]

/-- The slots that are known stand for those of the model. -/
def FRel (μ : Places) (F : Fr) (tmps : Array Value) : Prop := ∀ t a, F.get t = some a → VRel μ a (tmps.getD t undef)

/-- The package variables: number g has the name g + 1; from some name on nothing is placed. -/
structure GRel (μ : Places) (G : Nat) : Prop where
  glob : ∀ g, g < G → ∃ L, μ (g + 1) = some L ∧ L.blk = g ∧ L.off = 0
  bound : ∃ M, ∀ b, M ≤ b → μ b = none

theorem FRel.mono {ν : Places} {F : Fr} {tmps : Array Value} (hf : FRel μ F tmps) (hle : Le μ ν) : FRel ν F tmps := fun t a h => (hf t a h).mono hle
theorem GRel.adv {ν : Places} {G : Nat} {w' : World} (hg : GRel μ G) (ha : Adv μ h w ν h' w') : GRel ν G := by
  refine ⟨fun g hlt => ?_, ?_⟩
  · obtain ⟨L, h1, h2⟩ := hg.glob g hlt
    exact ⟨L, ha.le _ _ h1, h2⟩
  · obtain ⟨M, hM⟩ := hg.bound
    refine ⟨max M h'.next, fun b hb => ?_⟩
    rw [ha.agree b (.inr (by omega))]
    exact hM b (by omega)

def evalA (G : Nat) (F : Fr) : Operand → Option AV
  | .tmp t => F.get t
  | .const v => ofV v
  | .global g => match Nat.ble (Nat.succ g) G with
    | true => some (.ptr (Nat.succ g) 0)
    | false => none
  | .func f => some (.fn (.func f) [] [])

theorem evalA_rel {G : Nat} {F : Fr} {a : Act} {x : Operand} {v : AV} (hf : FRel μ F a.tmps) (hg : GRel μ G) (he : evalA G F x = some v) : VRel μ v (a.eval x) := by
  cases x with
  | tmp t => exact hf t v he
  | const v => exact ofV_rel μ he
  | global g =>
    unfold evalA at he
    dsimp only at he
    split at he <;> cases he
    rename_i hle
    obtain ⟨L, h1, h2, h3⟩ := hg.glob g (Nat.le_of_ble_eq_true hle)
    have := VRel.ptr (μ := μ) (off := 0) h1
    rw [h2, h3] at this
    exact this
  | func f => cases he; exact .fn .nil .nil

def evalsA (G : Nat) (F : Fr) : List Operand → Option (List AV)
  | [] => some []
  | x :: r => match evalA G F x with
    | some a => match evalsA G F r with
      | some l => some (a :: l)
      | none => none
    | none => none

theorem evalsA_rel {G : Nat} {F : Fr} {a : Act} (hf : FRel μ F a.tmps) (hg : GRel μ G) : ∀ {l : List Operand} {as : List AV}, evalsA G F l = some as → VRels μ as (l.map a.eval)
  | [], as, h => by cases h; exact .nil
  | x :: r, as, h => by
    unfold evalsA at h
    split at h <;> try cases h
    rename_i v hv
    split at h <;> cases h
    rename_i l hl
    exact .cons (evalA_rel hf hg hv) (evalsA_rel hf hg hl)

def evalO (G : Nat) (F : Fr) : Option Operand → Option (Option AV)
  | none => some none
  | some x => match evalA G F x with
    | some a => some (some a)
    | none => none

theorem evalO_rel {G : Nat} {F : Fr} {a : Act} (hf : FRel μ F a.tmps) (hg : GRel μ G) {x : Option Operand} {v : Option AV} (he : evalO G F x = some v) : ORel μ v (x.map a.eval) := by
  cases x with
  | none => cases he; trivial
  | some x =>
    unfold evalO at he
    dsimp only at he
    split at he <;> cases he
    rename_i u hu
    exact evalA_rel hf hg hu

def evalP (G : Nat) (F : Fr) : List (Nat × Operand) → Option (List (Nat × AV))
  | [] => some []
  | (i, x) :: r => match evalA G F x with
    | some a => match evalP G F r with
      | some l => some ((i, a) :: l)
      | none => none
    | none => none

theorem evalP_rel {G : Nat} {F : Fr} {a : Act} (hf : FRel μ F a.tmps) (hg : GRel μ G) : ∀ {l : List (Nat × Operand)} {as : List (Nat × AV)}, evalP G F l = some as →
    as.length = (l.map fun (i, x) => (i, a.eval x)).length ∧
    ∀ (j : Nat) (x : Nat × AV) (y : Nat × Value), as[j]? = some x → (l.map fun (i, x) => (i, a.eval x))[j]? = some y → x.1 = y.1 ∧ VRel μ x.2 y.2
  | [], as, h => by cases h; exact ⟨rfl, fun j x y h => by simp at h⟩
  | (i, x) :: r, as, h => by
    unfold evalP at h
    split at h <;> try cases h
    rename_i v hv
    split at h <;> cases h
    rename_i l hl
    obtain ⟨h1, h2⟩ := evalP_rel hf hg hl
    refine ⟨by simpa using h1, fun j x' y' hx hy => ?_⟩
    cases j with
    | zero => simp at hx hy; subst hx; subst hy; exact ⟨rfl, evalA_rel hf hg hv⟩
    | succ j => exact h2 j x' y' (by simpa using hx) (by simpa using hy)

/-- What an operation comes to. -/
inductive ARes where
  | val (a : AV) (h : AH)
  | enter (f : FuncId) (args : List AV)

def valO (h : AH) : Option AV → Option ARes
  | some a => some (.val a h)
  | none => none
def valP : Option (AV × AH) → Option ARes
  | some (a, h) => some (.val a h)
  | none => none
def valH : Option AH → Option ARes
  | some h => some (.val (.tup []) h)
  | none => none

def builtinA (P : Program) (b : Builtin) (ts : List TypeId) (as : List AV) (h : AH) : Option ARes :=
  match b, ts, as with
  | .len, [t], [x] => valO h (lenOfA P t x h)
  | .cap, [t], [x] => valO h (capA P t x)
  | .append, [t, u], [s, x] => valP (appendA P t u s x h)
  | .copy, [t, _], [d, s] => valP (copyA P t d s h)
  | .clear, [t], [x] => valP (clearA P t x h)
  | .max, _, as => valO h (minmaxA true as)
  | .min, _, as => valO h (minmaxA false as)
  | _, _, _ => none

def bind1 {β : Type} (x : Option AV) (f : AV → Option β) : Option β :=
  match x with
  | some a => f a
  | none => none

def stepA (P : Program) (G : Nat) (F : Fr) (o : Op) (h : AH) : Option ARes :=
  match o with
  | .move x => valO h (evalA G F x)
  | .assign x => valO h (evalA G F x)
  | .pick c a b => bind1 (evalA G F c) fun c => match c with
    | .bool true => bind1 (evalA G F b) fun _ => valO h (evalA G F a)
    | .bool false => bind1 (evalA G F a) fun _ => valO h (evalA G F b)
    | _ => none
  | .alloc t => valP (allocA P t h)
  | .box _ x => bind1 (evalA G F x) fun x => valP (some (boxA x h))
  | .build t ps => match evalP G F ps.toList with
    | some ps => valO h (buildA P t ps)
    | none => none
  | .buildSlice t n ps => match evalP G F ps.toList with
    | some ps => valP (buildSliceA P t n ps h)
    | none => none
  | .load t a => bind1 (evalA G F a) fun a => valO h (loadA P t a h)
  | .store t a x => bind1 (evalA G F a) fun a => bind1 (evalA G F x) fun x => valH (storeA P t a x h)
  | .nilCheck x => bind1 (evalA G F x) fun x => match solidA x with
    | true => some (.val x h)
    | false => none
  | .binOp op t x y _ => bind1 (evalA G F x) fun x => bind1 (evalA G F y) fun y => valO h (binA P op t x y)
  | .unOp op _ x => bind1 (evalA G F x) fun x => valO h (unA op x)
  | .convert s d x => bind1 (evalA G F x) fun x => valO h (convA P s d x)
  | .makeInterface t x => bind1 (evalA G F x) fun x => valO h (ifaceA P t x)
  | .makeFunc fn first cap => match evalsA G F first.toList, evalsA G F cap.toList with
    | some as, some bs => some (.val (.fn fn as bs) h)
    | _, _ => none
  | .makeMap _ none => valP (some (makeMapA h))
  | .makeSlice t l c => bind1 (evalA G F l) fun l => bind1 (evalA G F c) fun c => valP (makeSliceA P t l c h)
  | .slice t x lo hi mx => bind1 (evalA G F x) fun x => match evalO G F lo, evalO G F hi, evalO G F mx with
    | some lo, some hi, some mx => valO h (sliceA P t x lo hi mx)
    | _, _, _ => none
  | .fieldAddr s x f => bind1 (evalA G F x) fun x => valO h (fieldAddrA P s x f)
  | .field t x f => bind1 (evalA G F x) fun x => valO h (fieldA P t x f)
  | .indexAddr t x i => bind1 (evalA G F x) fun x => bind1 (evalA G F i) fun i => valO h (indexAddrA P t x i)
  | .index t x i => bind1 (evalA G F x) fun x => bind1 (evalA G F i) fun i => valO h (indexA P t x i)
  | .lookup t x k ok => bind1 (evalA G F x) fun x => bind1 (evalA G F k) fun k => valO h (lookupA P t x k ok h)
  | .mapUpdate t m k x => bind1 (evalA G F m) fun m => bind1 (evalA G F k) fun k => bind1 (evalA G F x) fun x => valH (updateA P t m k x h)
  | .insert t m k x => bind1 (evalA G F m) fun m => bind1 (evalA G F k) fun k => bind1 (evalA G F x) fun x => valH (updateA P t m k x h)
  | .mapEntry t m k => bind1 (evalA G F m) fun m => bind1 (evalA G F k) fun k => valP (mapEntryA P t m k h)
  | .entryStore _ m s x => bind1 (evalA G F m) fun m => bind1 (evalA G F s) fun s => bind1 (evalA G F x) fun x => valH (entryStoreA m s x h)
  | .range t x => bind1 (evalA G F x) fun x => valP (rangeA P t x h)
  | .next it str => bind1 (evalA G F it) fun it => valP (nextA it str h)
  | .typeAssert x _ t ok => bind1 (evalA G F x) fun x => valO h (assertA P x t ok)
  | .extract x i => bind1 (evalA G F x) fun x => valO h (extractA x i)
  | .call c => match evalsA G F c.args.toList with
    | none => none
    | some as =>
      match c.callee with
      | .builtin b => builtinA P b c.argTypes.toList as h
      | .value f => bind1 (evalA G F f) fun f => match f with
        | .fn (.func g) first cap => some (.enter g (first ++ as ++ cap))
        | _ => none
      | _ => none
  | _ => none

/-- That the operation's run is as the plain step says. -/
def Agrees (P : Program) (μ : Places) (h : AH) (w : World) (s : Sem Next) : ARes → Prop
  | .val a h' => ∃ ν n w', s.run P w = .ok n w' ∧ ((∃ v, n = .value v ∧ VRel ν a v) ∨ (n = .skip ∧ a = .tup [])) ∧ RelH ν h' w' ∧ Adv μ h w ν h' w'
  | .enter f args => ∃ vs, VRels μ args vs ∧ s.run P w = (callFunc f vs.toArray).run P w

def ARes.next (h : AH) : ARes → AH
  | .val _ h' => h'
  | .enter _ _ => h

theorem agrees_pure {s : Sem Value} {a : AV} (hr : RelH μ h w) (hv : ∃ v, s.run P w = .ok v w ∧ VRel μ a v) : Agrees P μ h w (do pure (.value (← s))) (.val a h) := by
  obtain ⟨v, h1, h2⟩ := hv
  exact ⟨μ, .value v, w, by simp [h1], .inl ⟨v, rfl, h2⟩, hr, Adv.refl _ _ _⟩

theorem agrees_did {s : Sem Value} {a : AV} (hd : Did P μ h w s a h') : Agrees P μ h w (do pure (.value (← s))) (.val a h') := by
  obtain ⟨ν, v, w', h1, h2, h3, h4⟩ := hd
  exact ⟨ν, .value v, w', by simp [h1], .inl ⟨v, rfl, h2⟩, h3, h4⟩

theorem agrees_same {s : Sem Value} {a : AV} (hd : ∃ v w', s.run P w = .ok v w' ∧ VRel μ a v ∧ RelH μ h' w' ∧ Adv μ h w μ h' w') : Agrees P μ h w (do pure (.value (← s))) (.val a h') := by
  obtain ⟨v, w', h1, h2, h3, h4⟩ := hd
  exact ⟨μ, .value v, w', by simp [h1], .inl ⟨v, rfl, h2⟩, h3, h4⟩

theorem agrees_unit {s : Sem Unit} (hd : ∃ w', s.run P w = .ok () w' ∧ RelH μ h' w' ∧ Adv μ h w μ h' w') : Agrees P μ h w (do s; pure .skip) (.val (.tup []) h') := by
  obtain ⟨w', h1, h3, h4⟩ := hd
  exact ⟨μ, .skip, w', by simp [h1], .inr ⟨rfl, rfl⟩, h3, h4⟩

theorem valO_some {h : AH} {x : Option AV} {r : ARes} (hv : valO h x = some r) : ∃ a, x = some a ∧ r = .val a h := by
  cases x <;> cases hv; exact ⟨_, rfl, rfl⟩
theorem valP_some {x : Option (AV × AH)} {r : ARes} (hv : valP x = some r) : ∃ a h, x = some (a, h) ∧ r = .val a h := by
  cases x <;> cases hv; exact ⟨_, _, rfl, rfl⟩
theorem valH_some {x : Option AH} {r : ARes} (hv : valH x = some r) : ∃ h, x = some h ∧ r = .val (.tup []) h := by
  cases x <;> cases hv; exact ⟨_, rfl, rfl⟩
theorem bind1_some {β : Type} {x : Option AV} {f : AV → Option β} {r : β} (hb : bind1 x f = some r) : ∃ a, x = some a ∧ f a = some r := by
  cases x with
  | none => cases hb
  | some a => exact ⟨a, rfl, hb⟩

theorem builtinA_run {b : Builtin} {ts : List TypeId} {as : List AV} {vs : List Value} {ty : TypeId} {cs : Array Bool} {r : ARes} (hr : RelH μ h w) (hv : VRels μ as vs) (hb : builtinA P b ts as h = some r)
    (hf : Fresh μ h (r.next h)) : Agrees P μ h w (builtin b ts.toArray ty cs vs.toArray) r := by
  unfold builtinA at hb
  split at hb <;> try cases hb
  · obtain ⟨a, ha, rfl⟩ := valO_some hb
    cases hv with | cons h1 t => cases t; exact agrees_pure hr (lenOfA_run hr h1 ha)
  · obtain ⟨a, ha, rfl⟩ := valO_some hb
    cases hv with | cons h1 t => cases t; exact agrees_pure hr (capA_run h1 ha w)
  · obtain ⟨a, h', ha, rfl⟩ := valP_some hb
    cases hv with | cons h1 t => cases t with | cons h2 t => cases t; exact agrees_did (appendA_run hr h1 h2 ha hf)
  · obtain ⟨a, h', ha, rfl⟩ := valP_some hb
    cases hv with | cons h1 t => cases t with | cons h2 t => cases t; exact agrees_same (copyA_run hr h1 h2 ha)
  · obtain ⟨a, h', ha, rfl⟩ := valP_some hb
    cases hv with | cons h1 t => cases t; exact agrees_same (clearA_run hr h1 ha)
  · obtain ⟨a, ha, rfl⟩ := valO_some hb
    exact agrees_pure hr (max_run hv ha w)
  · obtain ⟨a, ha, rfl⟩ := valO_some hb
    exact agrees_pure hr (min_run hv ha w)

set_option maxHeartbeats 1000000 in
theorem stepA_run {G : Nat} {F : Fr} {o : Oper} {a : Act} {r : ARes} (hr : RelH μ h w) (hf : FRel μ F a.tmps) (hg : GRel μ G) (hs : stepA P G F o.op h = some r) (hfr : Fresh μ h (r.next h)) :
    Agrees P μ h w (execOp a.eval o) r := by
  obtain ⟨dst, op, ty, pos, after, guard⟩ := o
  have ev : ∀ {x : Operand} {v : AV}, evalA G F x = some v → VRel μ v (a.eval x) := fun he => evalA_rel hf hg he
  dsimp only at hs
  unfold execOp
  dsimp only
  cases op <;> dsimp only [stepA] at hs ⊢ <;> try (cases hs; done)
  case move x =>
    obtain ⟨v, hv, rfl⟩ := valO_some hs
    exact ⟨μ, _, w, rfl, .inl ⟨_, rfl, ev hv⟩, hr, Adv.refl _ _ _⟩
  case assign x =>
    obtain ⟨v, hv, rfl⟩ := valO_some hs
    exact ⟨μ, _, w, rfl, .inl ⟨_, rfl, ev hv⟩, hr, Adv.refl _ _ _⟩
  case pick c x y =>
    obtain ⟨vc, hc, hs⟩ := bind1_some hs
    have hc' := ev hc
    split at hs <;> try cases hs
    · obtain ⟨vy, hy, hs⟩ := bind1_some hs
      obtain ⟨v, hv, rfl⟩ := valO_some hs
      generalize a.eval c = vc' at hc'
      cases hc'
      exact ⟨μ, .value (a.eval x), w, by simp [asBool], .inl ⟨_, rfl, ev hv⟩, hr, Adv.refl _ _ _⟩
    · obtain ⟨vy, hy, hs⟩ := bind1_some hs
      obtain ⟨v, hv, rfl⟩ := valO_some hs
      generalize a.eval c = vc' at hc'
      cases hc'
      exact ⟨μ, .value (a.eval y), w, by simp [asBool], .inl ⟨_, rfl, ev hv⟩, hr, Adv.refl _ _ _⟩
  case alloc t =>
    obtain ⟨v, h', hv, rfl⟩ := valP_some hs
    exact agrees_did (allocA_run hr hv hfr)
  case box t x =>
    obtain ⟨vx, hx, hs⟩ := bind1_some hs
    obtain ⟨v, h', hv, rfl⟩ := valP_some hs
    exact agrees_did (boxA_run hr (ev hx) (Option.some.inj hv) hfr)
  case build t ps =>
    split at hs <;> try cases hs
    rename_i l hl
    obtain ⟨v, hv, rfl⟩ := valO_some hs
    obtain ⟨h1, h2⟩ := evalP_rel hf hg hl
    exact agrees_pure hr (buildA_run hv w (by rw [h1]; simp) (fun i x y hx hy => h2 i x y hx (by rw [← Array.toList_map]; exact hy)))
  case buildSlice t n ps =>
    split at hs <;> try cases hs
    rename_i l hl
    obtain ⟨v, h', hv, rfl⟩ := valP_some hs
    obtain ⟨h1, h2⟩ := evalP_rel hf hg hl
    exact agrees_did (buildSliceA_run hr hv hfr (by rw [h1]; simp) (fun i x y hx hy => h2 i x y hx (by rw [← Array.toList_map]; exact hy)))
  case load t x =>
    obtain ⟨vx, hx, hs⟩ := bind1_some hs
    obtain ⟨v, hv, rfl⟩ := valO_some hs
    exact agrees_pure hr (loadA_run hr (ev hx) hv)
  case store t x y =>
    obtain ⟨vx, hx, hs⟩ := bind1_some hs
    obtain ⟨vy, hy, hs⟩ := bind1_some hs
    obtain ⟨h', hv, rfl⟩ := valH_some hs
    exact agrees_unit (storeA_run hr (ev hx) (ev hy) hv)
  case nilCheck x =>
    obtain ⟨vx, hx, hs⟩ := bind1_some hs
    have hx' := ev hx
    split at hs <;> cases hs
    rename_i hsol
    generalize a.eval x = vx' at hx'
    cases hx' <;> simp only [solidA] at hsol <;> try (cases hsol; done)
    · rename_i h1
      exact ⟨μ, _, w, rfl, .inl ⟨_, rfl, .ptr h1⟩, hr, Adv.refl _ _ _⟩
    · rename_i f as bs xs ys h1 h2
      cases f <;> simp only [solidA] at hsol <;> try (cases hsol; done)
      exact ⟨μ, _, w, rfl, .inl ⟨_, rfl, .fn h1 h2⟩, hr, Adv.refl _ _ _⟩
    · rename_i h1
      exact ⟨μ, _, w, rfl, .inl ⟨_, rfl, .iface h1⟩, hr, Adv.refl _ _ _⟩
  case binOp op t x y yt =>
    obtain ⟨vx, hx, hs⟩ := bind1_some hs
    obtain ⟨vy, hy, hs⟩ := bind1_some hs
    obtain ⟨v, hv, rfl⟩ := valO_some hs
    exact agrees_pure hr (binA_run (ev hx) (ev hy) hv x y w)
  case unOp op t x =>
    obtain ⟨vx, hx, hs⟩ := bind1_some hs
    obtain ⟨v, hv, rfl⟩ := valO_some hs
    exact agrees_pure hr (unA_run (ev hx) hv w)
  case convert s d x =>
    obtain ⟨vx, hx, hs⟩ := bind1_some hs
    obtain ⟨v, hv, rfl⟩ := valO_some hs
    exact agrees_pure hr (convA_run (ev hx) hv w)
  case makeInterface t x =>
    obtain ⟨vx, hx, hs⟩ := bind1_some hs
    obtain ⟨v, hv, rfl⟩ := valO_some hs
    exact agrees_pure hr (ifaceA_run (ev hx) hv w)
  case makeFunc fn first cap =>
    split at hs <;> cases hs
    rename_i as bs h1 h2
    have g1 := evalsA_rel hf hg h1
    have g2 := evalsA_rel hf hg h2
    refine ⟨μ, .value (.func fn (first.map a.eval) (cap.map a.eval)), w, rfl, .inl ⟨_, rfl, ?_⟩, hr, Adv.refl _ _ _⟩
    have e1 : first.map a.eval = (first.toList.map a.eval).toArray := by apply Array.ext'; simp
    have e2 : cap.map a.eval = (cap.toList.map a.eval).toArray := by apply Array.ext'; simp
    rw [e1, e2]
    exact .fn g1 g2
  case makeMap t r =>
    cases r <;> dsimp only at hs
    · obtain ⟨v, h', hv, rfl⟩ := valP_some hs
      exact agrees_did (makeMapA_run hr (Option.some.inj hv) hfr rfl)
    · cases hs
  case makeSlice t l c =>
    obtain ⟨vl, hl, hs⟩ := bind1_some hs
    obtain ⟨vc, hc, hs⟩ := bind1_some hs
    obtain ⟨v, h', hv, rfl⟩ := valP_some hs
    exact agrees_did (makeSliceA_run hr (ev hl) (ev hc) hv hfr)
  case slice t x lo hi mx =>
    obtain ⟨vx, hx, hs⟩ := bind1_some hs
    split at hs <;> try cases hs
    rename_i l h m e1 e2 e3
    obtain ⟨v, hv, rfl⟩ := valO_some hs
    exact agrees_pure hr (sliceA_run w (ev hx) (evalO_rel hf hg e1) (evalO_rel hf hg e2) (evalO_rel hf hg e3) hv)
  case fieldAddr s x f =>
    obtain ⟨vx, hx, hs⟩ := bind1_some hs
    obtain ⟨v, hv, rfl⟩ := valO_some hs
    exact agrees_pure hr (fieldAddrA_run w (ev hx) hv)
  case field t x f =>
    obtain ⟨vx, hx, hs⟩ := bind1_some hs
    obtain ⟨v, hv, rfl⟩ := valO_some hs
    exact agrees_pure hr (fieldA_run w (ev hx) hv)
  case indexAddr t x i =>
    obtain ⟨vx, hx, hs⟩ := bind1_some hs
    obtain ⟨vi, hi, hs⟩ := bind1_some hs
    obtain ⟨v, hv, rfl⟩ := valO_some hs
    exact agrees_pure hr (indexAddrA_run w (ev hx) (ev hi) hv)
  case index t x i =>
    obtain ⟨vx, hx, hs⟩ := bind1_some hs
    obtain ⟨vi, hi, hs⟩ := bind1_some hs
    obtain ⟨v, hv, rfl⟩ := valO_some hs
    exact agrees_pure hr (indexA_run w (ev hx) (ev hi) hv)
  case lookup t x k ok =>
    obtain ⟨vx, hx, hs⟩ := bind1_some hs
    obtain ⟨vk, hk, hs⟩ := bind1_some hs
    obtain ⟨v, hv, rfl⟩ := valO_some hs
    exact agrees_pure hr (lookupA_run hr (ev hx) (ev hk) hv)
  case mapUpdate t m k x =>
    obtain ⟨vm, hm, hs⟩ := bind1_some hs
    obtain ⟨vk, hk, hs⟩ := bind1_some hs
    obtain ⟨vx, hx, hs⟩ := bind1_some hs
    obtain ⟨h', hv, rfl⟩ := valH_some hs
    exact agrees_unit (updateA_run hr (ev hm) (ev hk) (ev hx) hv)
  case insert t m k x =>
    obtain ⟨vm, hm, hs⟩ := bind1_some hs
    obtain ⟨vk, hk, hs⟩ := bind1_some hs
    obtain ⟨vx, hx, hs⟩ := bind1_some hs
    obtain ⟨h', hv, rfl⟩ := valH_some hs
    exact agrees_unit (updateA_run hr (ev hm) (ev hk) (ev hx) hv)
  case mapEntry t m k =>
    obtain ⟨vm, hm, hs⟩ := bind1_some hs
    obtain ⟨vk, hk, hs⟩ := bind1_some hs
    obtain ⟨v, h', hv, rfl⟩ := valP_some hs
    exact agrees_same (mapEntryA_run hr (ev hm) (ev hk) hv)
  case entryStore t m s x =>
    obtain ⟨vm, hm, hs⟩ := bind1_some hs
    obtain ⟨vs, hss, hs⟩ := bind1_some hs
    obtain ⟨vx, hx, hs⟩ := bind1_some hs
    obtain ⟨h', hv, rfl⟩ := valH_some hs
    exact agrees_unit (entryStoreA_run hr (ev hm) (ev hss) (ev hx) hv)
  case range t x =>
    obtain ⟨vx, hx, hs⟩ := bind1_some hs
    obtain ⟨v, h', hv, rfl⟩ := valP_some hs
    exact agrees_did (rangeA_run hr (ev hx) hv hfr)
  case next it str =>
    obtain ⟨vx, hx, hs⟩ := bind1_some hs
    obtain ⟨v, h', hv, rfl⟩ := valP_some hs
    exact agrees_same (nextA_run hr (ev hx) hv)
  case typeAssert x xt t ok =>
    obtain ⟨vx, hx, hs⟩ := bind1_some hs
    obtain ⟨v, hv, rfl⟩ := valO_some hs
    exact agrees_pure hr (assertA_run (ev hx) hv w)
  case extract x i =>
    obtain ⟨vx, hx, hs⟩ := bind1_some hs
    obtain ⟨v, hv, rfl⟩ := valO_some hs
    exact agrees_pure hr (extractA_run (ev hx) hv w)
  case call c =>
    obtain ⟨callee, args, argTypes⟩ := c
    dsimp only at hs
    split at hs <;> try cases hs
    rename_i as has
    have hargs := evalsA_rel hf hg has
    have e1 : args.map a.eval = (args.toList.map a.eval).toArray := by apply Array.ext'; simp
    cases callee with
    | builtin b =>
      dsimp only at hs
      have hb := builtinA_run (ty := ty) (cs := args.map fun | .const _ => true | _ => false) hr hargs hs hfr
      have e2 : argTypes.toList.toArray = argTypes := by simp
      rw [e2] at hb
      have key : (do let d ← resolve a.eval { callee := .builtin b, args, argTypes } ty; invoke d.target d.args : Sem Next) =
          builtin b argTypes ty (args.map fun | .const _ => true | _ => false) (args.toList.map a.eval).toArray := by
        rw [← e1]; rfl
      rw [key]
      exact hb
    | value f =>
      dsimp only at hs
      obtain ⟨vf, hvf, hs⟩ := bind1_some hs
      have hvf' := ev hvf
      split at hs <;> cases hs
      rename_i g first cap
      generalize hq : a.eval f = vf' at hvf'
      cases hvf' with
      | fn g1 g2 =>
        rename_i xs ys
        refine ⟨xs ++ args.toList.map a.eval ++ ys, (g1.append hargs).append g2, ?_⟩
        simp [resolve, hq, Deferred.ofValue, invoke, e1]
    | invoke _ _ => cases hs

end
end
end Go.Proofs.Ytllldiokcnheiaa.Ab

namespace Go.Proofs.Ytllldiokcnheiaa.Ab
noncomputable section

abbrev StepF := Program → Nat → Fr → AH → Option ARes

def kcode : IntKind → Nat
  | .i8 => 0 | .i16 => 1 | .i32 => 2 | .i64 => 3 | .u8 => 4 | .u16 => 5 | .u32 => 6 | .u64 => 7

theorem kcode_inj {k k' : IntKind} (h : Nat.beq (kcode k) (kcode k') = true) : k = k' := by
  cases k <;> cases k' <;> first | rfl | (exact absurd h (by decide))

theorem kcode_eq (k k' : IntKind) : Nat.beq (kcode k) (kcode k') = decide (k = k') := by
  cases k <;> cases k' <;> rfl

abbrev IntF := IntKind → IntKind → Int → Int → Option AV
def sameK (k k' : IntKind) (x : Option AV) : Option AV := match Nat.beq (kcode k) (kcode k') with | true => x | false => none
def iAdd : IntF := fun k k' x y => sameK k k' (some (.int k (wrapF k (Int.add x y))))
def iSub : IntF := fun k k' x y => sameK k k' (some (.int k (wrapF k (Int.sub x y))))
def iMul : IntF := fun k k' x y => sameK k k' (some (.int k (wrapF k (Int.mul x y))))
def iQuo : IntF := fun k k' x y => sameK k k' ((quoF k x y).map (.int k))
def iRem : IntF := fun k k' x y => sameK k k' ((remF x y).map (.int k))
def iEql : IntF := fun k k' x y => sameK k k' (some (.bool (eqF x y)))
def iNeq : IntF := fun k k' x y => sameK k k' (some (.bool (notB (eqF x y))))
def iLss : IntF := fun k k' x y => sameK k k' (some (.bool (ltF x y)))
def iLeq : IntF := fun k k' x y => sameK k k' (some (.bool (leF x y)))
def iGtr : IntF := fun k k' x y => sameK k k' (some (.bool (ltF y x)))
def iGeq : IntF := fun k k' x y => sameK k k' (some (.bool (leF y x)))
def iShl : IntF := fun k _ x y => (shiftF .shl k x y).map (.int k)
def iShr : IntF := fun k _ x y => (shiftF .shr k x y).map (.int k)
def iAnd : IntF := fun k k' x y => sameK k k' ((bitsF .and k x y).map (.int k))
def iOr : IntF := fun k k' x y => sameK k k' ((bitsF .or k x y).map (.int k))
def iXor : IntF := fun k k' x y => sameK k k' ((bitsF .xor k x y).map (.int k))
def iAndNot : IntF := fun k k' x y => sameK k k' ((bitsF .andNot k x y).map (.int k))

def intT : BinOp → IntF
  | .add => iAdd | .sub => iSub | .mul => iMul | .quo => iQuo | .rem => iRem
  | .and => iAnd | .or => iOr | .xor => iXor | .andNot => iAndNot | .shl => iShl | .shr => iShr
  | .eql => iEql | .neq => iNeq | .lss => iLss | .leq => iLeq | .gtr => iGtr | .geq => iGeq

theorem notB_eq (b : Bool) : notB b = !b := by cases b <;> rfl

theorem intT_eq (op : BinOp) (k k' : IntKind) (x y : Int) : intT op k k' x y = intOp op k k' x y := by
  have key : ∀ z, sameK k k' z = match decide (k = k') with | false => none | true => z := by
    intro z; unfold sameK; rw [kcode_eq]; cases decide (k = k') <;> rfl
  cases op <;> simp only [intT, iAdd, iSub, iMul, iQuo, iRem, iEql, iNeq, iLss, iLeq, iGtr, iGeq, iShl, iShr, iAnd, iOr, iXor, iAndNot, intOp, key, notB_eq] <;> cases decide (k = k') <;> rfl

abbrev BinF := Program → BinOp → TypeId → AV → Option AV
def bSlow (x : AV) : BinF := fun P op t y => binA P op t x y
def bInt2 (k : IntKind) (a : Int) (op : BinOp) (y : AV) (P : Program) (t : TypeId) : Option AV :=
  match y with
  | .int k' b => intT op k k' a b
  | y => binA P op t (.int k a) y
def bInt (k : IntKind) (a : Int) : BinF := fun P op t y => bInt2 k a op y P t
def binT (x : AV) : BinF :=
  match x with
  | .int k a => bInt k a
  | x => bSlow x

theorem binT_eq (P : Program) (op : BinOp) (t : TypeId) (x y : AV) : binT x P op t y = binA P op t x y := by
  cases x <;> try rfl
  cases y <;> try rfl
  exact intT_eq op _ _ _ _

/-! ### Cells by a walk along the list -/

def nth1 (a : AV) (ih : Nat → Option AV) (k : Nat) : Option AV :=
  match Nat.beq k 0 with
  | true => some a
  | false => ih (Nat.pred k)

def nthF (l : List AV) : Nat → Option AV :=
  List.rec (motive := fun _ => Nat → Option AV) (fun _ => none) (fun a _ ih => nth1 a ih) l

theorem nthF_eq (l : List AV) (k : Nat) : nthF l k = l[k]? := by
  induction l generalizing k with
  | nil => rfl
  | cons a r ih =>
    show nth1 a (nthF r) k = _
    unfold nth1
    cases k with
    | zero => rfl
    | succ k =>
      have : Nat.beq (k + 1) 0 = false := rfl
      rw [this]
      simpa using ih k

def cons1 (a : AV) (x : Option (List AV)) : Option (List AV) :=
  match x with
  | some l => some (a :: l)
  | none => none

def over1 (v : AV) (ih : List AV → Option (List AV)) (cs : List AV) : Option (List AV) :=
  match cs with
  | [] => none
  | _ :: r => cons1 v (ih r)

def overF (vs : List AV) : List AV → Option (List AV) :=
  List.rec (motive := fun _ => List AV → Option (List AV)) (fun cs => some cs) (fun v _ ih => over1 v ih) vs

theorem overF_eq : ∀ (vs cs : List AV), overF vs cs = if vs.length ≤ cs.length then some (vs ++ cs.drop vs.length) else none
  | [], cs => by simp [overF]
  | v :: r, cs => by
    show over1 v (overF r) cs = _
    unfold over1
    cases cs with
    | nil => simp
    | cons c t =>
      dsimp only
      rw [overF_eq r t]
      by_cases h : r.length ≤ t.length <;> simp [h, cons1]

def walk1 (vs : List AV) (c : AV) (r : List AV) (ih : Nat → Option (List AV)) (off : Nat) : Option (List AV) :=
  match Nat.beq off 0 with
  | true => overF vs (c :: r)
  | false => cons1 c (ih (Nat.pred off))

def walkF (vs cs : List AV) : Nat → Option (List AV) :=
  List.rec (motive := fun _ => Nat → Option (List AV)) (fun off => match Nat.beq off 0 with | true => overF vs [] | false => none) (fun c r ih => walk1 vs c r ih) cs

theorem walkF_eq (vs : List AV) : ∀ (cs : List AV) (off : Nat), walkF vs cs off = if off + vs.length ≤ cs.length then some (setR cs off vs) else none
  | [], off => by
    show (match Nat.beq off 0 with | true => overF vs [] | false => none) = _
    cases off with
    | zero =>
      have : Nat.beq 0 0 = true := rfl
      rw [this]
      dsimp only
      rw [overF_eq]
      simp [setR]
    | succ k =>
      have : Nat.beq (k + 1) 0 = false := rfl
      rw [this]
      simp
  | c :: r, off => by
    show walk1 vs c r (walkF vs r) off = _
    unfold walk1
    cases off with
    | zero =>
      have : Nat.beq 0 0 = true := rfl
      rw [this]
      dsimp only
      rw [overF_eq]
      simp [setR]
    | succ k =>
      have : Nat.beq (k + 1) 0 = false := rfl
      rw [this]
      dsimp only
      rw [show Nat.pred (k + 1) = k from rfl, walkF_eq vs r k]
      by_cases h : k + vs.length ≤ r.length
      · rw [if_pos h, if_pos (by simp; omega)]
        have : k + 1 + vs.length = (k + vs.length) + 1 := by omega
        simp [cons1, setR, this]
      · rw [if_neg h, if_neg (by simp; omega)]; rfl

def storeLF (h : AH) (b off : Nat) (vs : List AV) : Option AH :=
  match h.at b with
  | some (.cells cs f) =>
    match h.fams.get f with
    | some l =>
      match Nat.beq f 0, allFlat vs with
      | false, true =>
        match walkF vs cs off with
        | some cs' => some ⟨(kills b l h.blocks).set b (.cells cs' f), h.fams.set f [b], h.next⟩
        | none => none
      | _, _ => none
    | none => none
  | _ => none

theorem storeLF_eq (h : AH) (b off : Nat) (vs : List AV) : storeLF h b off vs = h.storeL b off vs := by
  unfold storeLF AH.storeL
  cases h.at b with
  | none => rfl
  | some B =>
    cases B with
    | map _ _ => rfl
    | it _ _ => rfl
    | cells cs f =>
      dsimp only
      cases h.fams.get f with
      | none => rfl
      | some l =>
        dsimp only
        cases Nat.beq f 0 with
        | true => rfl
        | false =>
          rw [walkF_eq]
          by_cases hl : off + vs.length ≤ cs.length
          · rw [if_pos hl, Nat.ble_eq_true_of_le hl]
            cases allFlat vs <;> rfl
          · rw [if_neg hl]
            have : Nat.ble (off + vs.length) cs.length = false := by
              cases hb : Nat.ble (off + vs.length) cs.length with
              | false => rfl
              | true => exact absurd (Nat.le_of_ble_eq_true hb) hl
            rw [this]
            cases allFlat vs <;> rfl

def load1F (h : AH) (b off : Nat) : Option AV :=
  match h.at b with
  | some (.cells cs _) => nthF cs off
  | _ => none

theorem load1F_eq (h : AH) (b off : Nat) : load1F h b off = h.load1 b off := by
  unfold load1F AH.load1
  cases h.at b with
  | none => rfl
  | some B => cases B <;> first | rfl | exact nthF_eq _ _

def take1 (ih : List AV → Option (List AV)) (cs : List AV) : Option (List AV) :=
  match cs with
  | [] => none
  | c :: r => cons1 c (ih r)

def takeF (n : Nat) : List AV → Option (List AV) :=
  Nat.rec (motive := fun _ => List AV → Option (List AV)) (fun _ => some []) (fun _ ih => take1 ih) n

theorem takeF_eq : ∀ (n : Nat) (cs : List AV), takeF n cs = if n ≤ cs.length then some (cs.take n) else none
  | 0, cs => by show some [] = _; simp
  | n + 1, cs => by
    show take1 (takeF n) cs = _
    unfold take1
    cases cs with
    | nil => simp
    | cons c r =>
      dsimp only
      rw [takeF_eq n r]
      by_cases h : n ≤ r.length <;> simp [h, cons1]

def at1 (n : Nat) (c : AV) (r : List AV) (ih : Nat → Option (List AV)) (off : Nat) : Option (List AV) :=
  match Nat.beq off 0 with
  | true => takeF n (c :: r)
  | false => ih (Nat.pred off)

def atF (n : Nat) (cs : List AV) : Nat → Option (List AV) :=
  List.rec (motive := fun _ => Nat → Option (List AV)) (fun off => match Nat.beq off 0 with | true => takeF n [] | false => none) (fun c r ih => at1 n c r ih) cs

theorem atF_eq (n : Nat) : ∀ (cs : List AV) (off : Nat), atF n cs off = if off + n ≤ cs.length then some ((cs.drop off).take n) else none
  | [], off => by
    show (match Nat.beq off 0 with | true => takeF n [] | false => none) = _
    cases off with
    | zero =>
      have : Nat.beq 0 0 = true := rfl
      rw [this]
      dsimp only
      rw [takeF_eq]
      simp
    | succ k =>
      have : Nat.beq (k + 1) 0 = false := rfl
      rw [this]
      simp
  | c :: r, off => by
    show at1 n c r (atF n r) off = _
    unfold at1
    cases off with
    | zero =>
      have : Nat.beq 0 0 = true := rfl
      rw [this]
      dsimp only
      rw [takeF_eq]
      simp
    | succ k =>
      have : Nat.beq (k + 1) 0 = false := rfl
      rw [this]
      dsimp only
      rw [show Nat.pred (k + 1) = k from rfl, atF_eq n r k]
      by_cases h : k + n ≤ r.length
      · rw [if_pos h, if_pos (by simp; omega)]; simp
      · rw [if_neg h, if_neg (by simp; omega)]

def loadLF (h : AH) (b off n : Nat) : Option (List AV) :=
  match h.at b with
  | some (.cells cs _) => atF n cs off
  | _ => none

theorem loadLF_eq (h : AH) (b off n : Nat) : loadLF h b off n = h.loadL b off n := by
  unfold loadLF AH.loadL
  cases h.at b with
  | none => rfl
  | some B =>
    cases B with
    | map _ _ => rfl
    | it _ _ => rfl
    | cells cs f =>
      dsimp only
      rw [atF_eq]
      by_cases hl : off + n ≤ cs.length
      · rw [if_pos hl, Nat.ble_eq_true_of_le hl]
      · rw [if_neg hl]
        have : Nat.ble (off + n) cs.length = false := by
          cases hb : Nat.ble (off + n) cs.length with
          | false => rfl
          | true => exact absurd (Nat.le_of_ble_eq_true hb) hl
        rw [this]

def loadAF (P : Program) (t : TypeId) (a : AV) (h : AH) : Option AV :=
  match a with
  | .ptr b off => match shapeA P t with
    | some none => load1F h b off
    | some (some n) => match loadLF h b off n with
      | some l => some (.agg l)
      | none => none
    | none => none
  | _ => none

theorem loadAF_eq (P : Program) (t : TypeId) (a : AV) (h : AH) : loadAF P t a h = loadA P t a h := by
  unfold loadAF loadA
  simp only [load1F_eq, loadLF_eq]
  cases a <;> rfl

def storeAF (P : Program) (t : TypeId) (a x : AV) (h : AH) : Option AH :=
  match a with
  | .ptr b off => match szA P t with
    | some n => match Nat.beq (cellsA x).length n with
      | true => storeLF h b off (cellsA x)
      | false => none
    | none => none
  | _ => none

theorem storeAF_eq (P : Program) (t : TypeId) (a x : AV) (h : AH) : storeAF P t a x h = storeA P t a x h := by
  unfold storeAF storeA
  simp only [storeLF_eq]
  cases a <;> rfl

def sMove (x : Operand) : StepF := fun _ G F h => valO h (evalA G F x)
def sPick2 (a b : Operand) (G : Nat) (F : Fr) (h : AH) (c : AV) : Option ARes :=
  match c with
  | .bool true => bind1 (evalA G F b) fun _ => valO h (evalA G F a)
  | .bool false => bind1 (evalA G F a) fun _ => valO h (evalA G F b)
  | _ => none
def sPick (c a b : Operand) : StepF := fun _ G F h => bind1 (evalA G F c) (sPick2 a b G F h)
def sAlloc (t : TypeId) : StepF := fun P _ _ h => valP (allocA P t h)
def sBox (x : Operand) : StepF := fun _ G F h => bind1 (evalA G F x) fun x => valP (some (boxA x h))
def sBuild (t : TypeId) (ps : Array (Nat × Operand)) : StepF := fun P G F h => match evalP G F ps.toList with
  | some ps => valO h (buildA P t ps)
  | none => none
def sBuildSlice (t : TypeId) (n : Nat) (ps : Array (Nat × Operand)) : StepF := fun P G F h => match evalP G F ps.toList with
  | some ps => valP (buildSliceA P t n ps h)
  | none => none
def sLoad (t : TypeId) (a : Operand) : StepF := fun P G F h => bind1 (evalA G F a) fun a => valO h (loadAF P t a h)
def sStore (t : TypeId) (a x : Operand) : StepF := fun P G F h => bind1 (evalA G F a) fun a => bind1 (evalA G F x) fun x => valH (storeAF P t a x h)
def sNil2 (h : AH) (x : AV) : Option ARes := match solidA x with
  | true => some (.val x h)
  | false => none
def sNil (x : Operand) : StepF := fun _ G F h => bind1 (evalA G F x) (sNil2 h)
def sBin (op : BinOp) (t : TypeId) (x y : Operand) : StepF := fun P G F h => bind1 (evalA G F x) fun x => bind1 (evalA G F y) fun y => valO h (binT x P op t y)
def sUn (op : UnOp) (x : Operand) : StepF := fun _ G F h => bind1 (evalA G F x) fun x => valO h (unA op x)
def sConv (s d : TypeId) (x : Operand) : StepF := fun P G F h => bind1 (evalA G F x) fun x => valO h (convA P s d x)
def sIface (t : TypeId) (x : Operand) : StepF := fun P G F h => bind1 (evalA G F x) fun x => valO h (ifaceA P t x)
def sMakeSlice (t : TypeId) (l c : Operand) : StepF := fun P G F h => bind1 (evalA G F l) fun l => bind1 (evalA G F c) fun c => valP (makeSliceA P t l c h)
def sSlice (t : TypeId) (x : Operand) (lo hi mx : Option Operand) : StepF := fun P G F h => bind1 (evalA G F x) fun x => match evalO G F lo, evalO G F hi, evalO G F mx with
  | some lo, some hi, some mx => valO h (sliceA P t x lo hi mx)
  | _, _, _ => none
def sFieldAddr (s : TypeId) (x : Operand) (f : Nat) : StepF := fun P G F h => bind1 (evalA G F x) fun x => valO h (fieldAddrA P s x f)
def sField (t : TypeId) (x : Operand) (f : Nat) : StepF := fun P G F h => bind1 (evalA G F x) fun x => valO h (fieldA P t x f)
def sIndexAddr (t : TypeId) (x i : Operand) : StepF := fun P G F h => bind1 (evalA G F x) fun x => bind1 (evalA G F i) fun i => valO h (indexAddrA P t x i)
def sIndex (t : TypeId) (x i : Operand) : StepF := fun P G F h => bind1 (evalA G F x) fun x => bind1 (evalA G F i) fun i => valO h (indexA P t x i)
def sExtract (x : Operand) (i : Nat) : StepF := fun _ G F h => bind1 (evalA G F x) fun x => valO h (extractA x i)
def sCallV (as : List AV) (f : AV) : Option ARes := match f with
  | .fn (.func g) first cap => some (.enter g (first ++ as ++ cap))
  | _ => none
def sCall2 (P : Program) (G : Nat) (F : Fr) (h : AH) (ts : List TypeId) (as : List AV) (c : Callee) : Option ARes :=
  match c with
  | .builtin b => builtinA P b ts as h
  | .value f => bind1 (evalA G F f) (sCallV as)
  | _ => none
def sCall (c : Call) : StepF := fun P G F h => match evalsA G F c.args.toList with
  | none => none
  | some as => sCall2 P G F h c.argTypes.toList as c.callee
def sOther (o : Op) : StepF := fun P G F h => stepA P G F o h

def stepT (o : Op) : StepF :=
  match o with
  | .move x => sMove x
  | .assign x => sMove x
  | .pick c a b => sPick c a b
  | .alloc t => sAlloc t
  | .box _ x => sBox x
  | .build t ps => sBuild t ps
  | .buildSlice t n ps => sBuildSlice t n ps
  | .load t a => sLoad t a
  | .store t a x => sStore t a x
  | .nilCheck x => sNil x
  | .binOp op t x y _ => sBin op t x y
  | .unOp op _ x => sUn op x
  | .convert s d x => sConv s d x
  | .makeInterface t x => sIface t x
  | .makeSlice t l c => sMakeSlice t l c
  | .slice t x lo hi mx => sSlice t x lo hi mx
  | .fieldAddr s x f => sFieldAddr s x f
  | .field t x f => sField t x f
  | .indexAddr t x i => sIndexAddr t x i
  | .index t x i => sIndex t x i
  | .extract x i => sExtract x i
  | .call c => sCall c
  | o => sOther o

theorem stepT_eq (P : Program) (G : Nat) (F : Fr) (o : Op) (h : AH) : stepT o P G F h = stepA P G F o h := by
  cases o <;> try rfl
  case binOp op t x y yt =>
    show bind1 (evalA G F x) _ = bind1 (evalA G F x) _
    congr 1; funext x; congr 1; funext y; rw [binT_eq]
  case load t a =>
    show bind1 (evalA G F a) _ = bind1 (evalA G F a) _
    congr 1; funext x; rw [loadAF_eq]
  case store t a y =>
    show bind1 (evalA G F a) _ = bind1 (evalA G F a) _
    congr 1; funext x; congr 1; funext y; rw [storeAF_eq]
end
end Go.Proofs.Ytllldiokcnheiaa.Ab

namespace Go.Proofs.Ytllldiokcnheiaa.Ab
noncomputable section

/-- How a piece of code ends. -/
inductive Ex where
  | normal
  | exit (id : Nat)
  | ret
  | goto (l : Nat)

def putA (N : Nat) (F : Fr) (d : Option Tmp) (a : AV) : Option (Fr) :=
  match d with
  | none => some F
  | some t => match Nat.ble (Nat.succ t) N with
    | true => some (F.set t a)
    | false => none

def eqB : Bool → Bool → Bool
  | true, true => true
  | false, false => true
  | _, _ => false

/-- Is the operation wanted? -/
def wantedA (ops : List Oper) (F : Fr) (o : Oper) : Option Bool :=
  match o.guard with
  | none => some true
  | some (j, want) =>
    match ops[j]? with
    | none => none
    | some o' => match o'.dst with
      | none => none
      | some t => match F.get t with
        | some (.bool b) => some (eqB b want)
        | some (.tup _) => some false
        | _ => none

abbrev CallF := FuncId → List AV → AH → Option (AV × AH)

/-- One operation: what it yields, and the memory behind it. -/
def doOp (P : Program) (G : Nat) (call : CallF) (ops : List Oper) (o : Oper) (F : Fr) (h : AH) : Option (AV × AH) :=
  match wantedA ops F o with
  | none => none
  | some false => some (.tup [], h)
  | some true =>
    match stepT o.op P G F h with
    | none => none
    | some (.val a h') => some (a, h')
    | some (.enter f args) => call f args h

/-- The slots that a piece of code names, as bits: those that it names at all, and those that two of its parts name. -/
def slotBit (m : Nat) : Operand → Nat
  | .tmp t => Nat.lor m (Nat.shiftLeft 1 t)
  | _ => m

def opBits (m : Nat) (o : Oper) : Nat :=
  (o.op.operands.toList).foldl slotBit (match o.dst with | some t => Nat.lor m (Nat.shiftLeft 1 t) | none => m)

def unit (sm : Nat × Nat) (u : Nat) : Nat × Nat := (Nat.lor sm.1 u, Nat.lor sm.2 (Nat.land sm.1 u))

def codeBits (sm : Nat × Nat) : Code → Nat × Nat
  | .region _ ops _ => unit sm (ops.toList.foldl opBits 0)
  | .seq a b => codeBits (codeBits sm a) b
  | .cond x a b => codeBits (codeBits (unit sm (slotBit 0 x)) a) b
  | .block _ b => codeBits sm b
  | .loop b => codeBits sm b
  | .scope b => codeBits sm b
  | .rangeFunc f _ a b => codeBits (codeBits (unit sm (slotBit 0 f)) a) b
  | _ => sm

def resBit (m : Nat) : ResultVar → Nat
  | .tmp t => Nat.lor m (Nat.shiftLeft 1 t)
  | .cell a _ => Nat.lor m (Nat.shiftLeft 1 a)

/-- The slots of a function that more than one of its parts names. -/
def keepMask (fn : Func) (args : Nat) : Nat :=
  match fn.body with
  | some c => (codeBits (fn.results.toList.foldl resBit (Nat.pred (Nat.shiftLeft 1 args)), 0) c).2
  | none => 0

def bit (m i : Nat) : Bool := Nat.beq (Nat.mod (Nat.shiftRight m i) 2) 1

/-- Those that a region writes and that are kept. -/
def keeps (K : Nat) : List Oper → List Nat
  | [] => []
  | o :: r => match o.dst with
    | some t => match bit K t with
      | true => t :: keeps K r
      | false => keeps K r
    | none => keeps K r

def rOp2 (N : Nat) (d : Option Tmp) (ih : Fr → AH → Option (Fr × AH)) (F : Fr) (x : Option (AV × AH)) : Option (Fr × AH) :=
  match x with
  | none => none
  | some (a, h') =>
    match putA N F d a with
    | none => none
    | some F' => ih F' h'

def rOp (P : Program) (G : Nat) (call : CallF) (N : Nat) (ops : List Oper) (o : Oper) (ih : Fr → AH → Option (Fr × AH)) (F : Fr) (h : AH) : Option (Fr × AH) :=
  rOp2 N o.dst ih F (doOp P G call ops o F h)

def runOps (P : Program) (G : Nat) (call : CallF) (N : Nat) (ops : List Oper) (l : List Oper) : Fr → AH → Option (Fr × AH) :=
  List.rec (motive := fun _ => Fr → AH → Option (Fr × AH)) (fun F h => some (F, h)) (fun o _ ih => rOp P G call N ops o ih) l

theorem runOps_nil {P : Program} {G : Nat} {call : CallF} {N : Nat} {ops : List Oper} {F : Fr} {h : AH} : runOps P G call N ops [] F h = some (F, h) := rfl
theorem runOps_cons {P : Program} {G : Nat} {call : CallF} {N : Nat} {ops : List Oper} {F : Fr} {h : AH} {o : Oper} {r : List Oper} : runOps P G call N ops (o :: r) F h =
    match doOp P G call ops o F h with
    | none => none
    | some (a, h') =>
      match putA N F o.dst a with
      | none => none
      | some F' => runOps P G call N ops r F' h' := by
  show rOp2 N o.dst (runOps P G call N ops r) F (doOp P G call ops o F h) = _
  unfold rOp2
  cases doOp P G call ops o F h with
  | none => rfl
  | some x => rfl

/-! ### Regions that draw their order -/

inductive OpKind where
  | pure | load | new | eff

def kindOf : Op → OpKind
  | .move _ | .assign _ | .pick .. | .build .. | .nilCheck _ | .binOp .. | .unOp .. | .convert .. | .makeInterface .. | .makeFunc .. | .slice .. | .fieldAddr .. | .field .. | .indexAddr .. | .index .. | .typeAssert .. | .extract .. => .pure
  | .load .. | .lookup .. => .load
  | .call { callee := .builtin .len, .. } => .load
  | .call { callee := .builtin .cap, .. } => .pure
  | .call { callee := .builtin .max, .. } => .pure
  | .call { callee := .builtin .min, .. } => .pure
  | .alloc _ | .box .. | .buildSlice .. | .makeSlice .. | .makeMap .. => .new
  | _ => .eff

def maskE (acc : List Nat) (s : Nat) (e : Edge) : Nat :=
  match Region.binds .any e with
  | true => Nat.lor s (Nat.lor (Nat.shiftLeft 1 e.on) (acc.getD e.on 0))
  | false => s

/-- The operations before each one, a bit for each. -/
def masks : List Oper → List Nat → List Nat
  | [], acc => acc
  | o :: r, acc => masks r (acc ++ [o.after.toList.foldl (maskE acc) 0])

/-- The order in which the operations are run: those before each effect first. 'done': a bit for each that is in it. -/
def canon (n : Nat) (B : List Nat) : List Nat → Nat → List Nat
  | [], done => (List.range n).filter fun i => match bit done i with | true => false | false => true
  | e :: es, done =>
    let m := B.getD e 0
    ((List.range n).filter fun i => match bit m i, bit done i with | true, false => true | _, _ => false) ++ e :: canon n B es (Nat.lor (Nat.lor done m) (Nat.shiftLeft 1 e))

def effs (ops : List Oper) : List Nat := (List.range ops.length).filter fun i => match ops[i]? with
  | some o => match kindOf o.op with | .eff => true | _ => false
  | none => false

/-- Two operations that touch no slot in common but to read. -/
def apartB (ops : List Oper) (x y : Oper) : Bool := Oper.apart ops.toArray x y

def edgesIn (done : Nat) (l : List Edge) : Bool := l.all fun e => match Region.binds .any e with
  | true => bit done e.on
  | false => true

/-- A list of all operations: each behind those that it must follow; an effect behind just those. -/
def orderOk (ops : List Oper) (B : List Nat) : List Nat → Nat → Bool
  | [], done => (List.range ops.length).all fun i => bit done i
  | i :: r, done => match ops[i]?, bit done i with
    | some o, false => match edgesIn done o.after.toList with
     | false => false
     | true => match kindOf o.op with
      | .eff => match Nat.beq done (B.getD i 0) with
        | true => orderOk ops B r (Nat.lor done (Nat.shiftLeft 1 i))
        | false => false
      | _ => match Nat.beq (Nat.land (B.getD i 0) done) (B.getD i 0) with
        | true => orderOk ops B r (Nat.lor done (Nat.shiftLeft 1 i))
        | false => false
    | _, _ => false

def pairsOk (ops : List Oper) (B : List Nat) : Bool :=
  (List.range ops.length).all fun i => (List.range ops.length).all fun j =>
    match Nat.beq i j, bit (B.getD i 0) j, bit (B.getD j 0) i with
    | true, _, _ => true
    | _, true, _ => true
    | _, _, true => true
    | false, false, false => match ops[i]?, ops[j]? with
      | some x, some y => apartB ops x y
      | _, _ => true

def noSelectB (ops : List Oper) : Bool := Region.noSelect ops.toArray

/-- All that is asked of the region's text. -/
def regionOk (ops : List Oper) (B L : List Nat) : Bool :=
  match orderOk ops B L 0, pairsOk ops B, noSelectB ops with
  | true, true, true => true
  | _, _, _ => false

def canonOf (ops : List Oper) : List Nat := canon ops.length (masks ops []) (effs ops) 0

mutual
def AV.same : AV → AV → Bool
  | .bool a, .bool b => eqB a b
  | .int k a, .int k' b => match decide (k = k') with | true => eqF a b | false => false
  | .str a, .str b => a.data.toList == b.data.toList
  | .nilp, .nilp => true
  | .ptr b o, .ptr b' o' => match Nat.beq b b' with | true => Nat.beq o o' | false => false
  | .nils, .nils => true
  | .sl b o l c z e, .sl b' o' l' c' z' e' => match Nat.beq b b', Nat.beq o o', Nat.beq l l', Nat.beq c c', Nat.beq z z', eqB e e' with
    | true, true, true, true, true, true => true
    | _, _, _, _, _, _ => false
  | .nilm, .nilm => true
  | .map b, .map b' => Nat.beq b b'
  | .fn f as bs, .fn f' as' bs' => match decide (f = f'), sames as as', sames bs bs' with
    | true, true, true => true
    | _, _, _ => false
  | .nilf, .nilf => true
  | .iface t v, .iface t' v' => match Nat.beq t t' with | true => v.same v' | false => false
  | .nili, .nili => true
  | .agg as, .agg bs => sames as bs
  | .tup as, .tup bs => sames as bs
  | _, _ => false
def sames : List AV → List AV → Bool
  | [], [] => true
  | a :: r, b :: s => match a.same b with | true => sames r s | false => false
  | _, _ => false
end

/-- What an operation has come to: its number, what it yielded, the slots that it saw, and the memory behind it. -/
structure Ran where
  i : Nat
  F : Fr
  h : AH
  v : AV
  h' : AH

def runCanon (P : Program) (G : Nat) (call : CallF) (N : Nat) (ops : List Oper) : List Nat → Fr → AH → List Ran → Option (Fr × AH × List Ran)
  | [], F, h, rs => some (F, h, rs)
  | i :: r, F, h, rs =>
    match ops[i]? with
    | none => none
    | some o =>
      match doOp P G call ops o F h with
      | none => none
      | some (a, h') =>
        match putA N F o.dst a with
        | none => none
        | some F' => runCanon P G call N ops r F' h' (⟨i, F, h, a, h'⟩ :: rs)

/-- The memories at which a load may be carried out: before the first effect, and behind each one. -/
def snaps (ops : List Oper) (h₀ : AH) : List Ran → List (Nat × AH)
  | [] => [(ops.length, h₀)]
  | r :: rs => match ops[r.i]? with
    | some o => match kindOf o.op with
      | .eff => (r.i, r.h') :: snaps ops h₀ rs
      | _ => snaps ops h₀ rs
    | none => snaps ops h₀ rs

/-- Does a load yield the same at each memory at which it may be carried out? 'xs': the effects, the last one first, each with the memory behind it. -/
def loadOk (P : Program) (G : Nat) (ops : List Oper) (B : List Nat) (l : Ran) (o : Oper) : List (Nat × AH) → Bool
  | [] => true
  | (e, h) :: xs =>
    match bit (B.getD e 0) l.i with
    | true => loadOk P G ops B l o xs
    | false =>
      match doOp P G (fun _ _ _ => none) ops o l.F h with
      | some (a, _) => match a.same l.v with
        | true => match bit (B.getD l.i 0) e with
          | true => true
          | false => loadOk P G ops B l o xs
        | false => false
      | none => false

def loadsOk (P : Program) (G : Nat) (ops : List Oper) (B : List Nat) (xs : List (Nat × AH)) : List Ran → Bool
  | [] => true
  | r :: rs => match ops[r.i]? with
    | some o => match kindOf o.op with
      | .load => match loadOk P G ops B r o xs with
        | true => loadsOk P G ops B xs rs
        | false => false
      | _ => loadsOk P G ops B xs rs
    | none => false

def runDraw (P : Program) (G : Nat) (call : CallF) (N : Nat) (ops : List Oper) (F : Fr) (h : AH) : Option (Fr × AH) :=
  match regionOk ops (masks ops []) (canonOf ops) with
  | false => none
  | true =>
    match runCanon P G call N ops (canonOf ops) F h [] with
    | none => none
    | some (F', h', rs) =>
      match loadsOk P G ops (masks ops []) (snaps ops h rs) rs with
      | true => some (F', h')
      | false => none

/-! ### Code -/

abbrev Out := Option (Ex × Fr × AH)

def outN (ks : List Nat) : Option (Fr × AH) → Out
  | some (F, h) => some (.normal, F.flush ks, h)
  | none => none

def resultA (P : Program) (F : Fr) (h : AH) : ResultVar → Option AV
  | .tmp t => F.get t
  | .cell a t => match F.get a with
    | some x => loadA P t x h
    | none => none

def resultsA (P : Program) (F : Fr) (h : AH) : List ResultVar → Option (List AV)
  | [] => some []
  | x :: r => match resultA P F h x with
    | some a => match resultsA P F h r with
      | some l => some (a :: l)
      | none => none
    | none => none

def initA (K : Nat) : List AV → Nat → PM AV → PM AV
  | [], _, F => F
  | a :: r, i, F => match bit K i with
    | true => initA K r (Nat.succ i) (F.set i a)
    | false => initA K r (Nat.succ i) F

def finishA (P : Program) (fn : Func) (F : Fr) (h : AH) : Option (AV × AH) :=
  match resultsA P F h fn.results.toList with
  | none => none
  | some [a] => some (a, h)
  | some l => some (.tup l, h)

abbrev RunF := Nat → Nat → Fr → AH → Out

/-- A function's body, for its arguments. -/
def callB (P : Program) (ih : Code → RunF) (fn : Func) (args : List AV) (h : AH) (c : Code) : Option (AV × AH) :=
  match Nat.ble args.length fn.ntmps with
  | false => none
  | true =>
    match ih c fn.ntmps (keepMask fn args.length) ⟨[], initA (keepMask fn args.length) args 0 .e⟩ h with
    | some (.normal, F, h') => finishA P fn F h'
    | some (.ret, F, h') => finishA P fn F h'
    | _ => none

/-- Without answers known beforehand. -/
def noO : CallF := fun _ _ _ => none

def callF (P : Program) (ih : Code → RunF) : CallF := fun f args h =>
  match P.funcs[f]? with
  | none => none
  | some fn =>
    match fn.body with
    | none => none
    | some c => callB P ih fn args h c

/-- A call, where O has some answers beforehand. -/
def callW (P : Program) (O : CallF) (ih : Code → RunF) : CallF := fun f args h =>
  match O f args h with
  | some r => some r
  | none => callF P ih f args h

def xSkip : RunF := fun _ _ F h => some (.normal, F, h)
def xRegion (P : Program) (O : CallF) (G : Nat) (ih : Code → RunF) (ops : Array Oper) (d : Bool) : RunF := fun N K F h =>
  match d with
  | false => outN (keeps K ops.toList) (runOps P G (callW P O ih) N ops.toList ops.toList F h)
  | true => outN (keeps K ops.toList) (runDraw P G (callW P O ih) N ops.toList F h)
def xThen (b : RunF) (N K : Nat) (r : Out) : Out :=
  match r with
  | some (.normal, F', h') => b N K F' h'
  | r => r
def xSeq (ih : Code → RunF) (a b : Code) : RunF := fun N K F h => xThen (ih b) N K (ih a N K F h)
def xCond (G : Nat) (ih : Code → RunF) (x : Operand) (a b : Code) : RunF := fun N K F h => match evalA G F x with
  | some (.bool true) => ih a N K F h
  | some (.bool false) => ih b N K F h
  | _ => none
def xLeave (id : Nat) (r : Out) : Out :=
  match r with
  | some (.exit id', F', h') => match Nat.beq id' id with
    | true => some (.normal, F', h')
    | false => some (.exit id', F', h')
  | r => r
def xBlock (ih : Code → RunF) (id : Nat) (b : Code) : RunF := fun N K F h => xLeave id (ih b N K F h)
def xLoop (ih : Code → RunF) (b : Code) : RunF := fun N K F h => xThen (ih (.loop b)) N K (ih b N K F h)
def xExit (id : Nat) : RunF := fun _ _ F h => some (.exit id, F, h)
def xRet : RunF := fun _ _ F h => some (.ret, F, h)
def xNone : RunF := fun _ _ _ _ => none

def execB (P : Program) (O : CallF) (G : Nat) (ih : Code → RunF) (c : Code) : RunF :=
  match c with
  | .skip => xSkip
  | .region _ ops d => xRegion P O G ih ops d
  | .seq a b => xSeq ih a b
  | .cond x a b => xCond G ih x a b
  | .block id b => xBlock ih id b
  | .loop b => xLoop ih b
  | .exit id => xExit id
  | .label _ => xSkip
  | .ret => xRet
  | _ => xNone

def exec (P : Program) (O : CallF) (G : Nat) (n : Nat) : Code → RunF :=
  Nat.rec (motive := fun _ => Code → RunF) (fun _ => xNone) (fun _ ih => execB P O G ih) n

def callA (P : Program) (O : CallF) (G : Nat) (n : Nat) : CallF := callW P O (exec P O G n)

theorem exec_zero {P : Program} {O : CallF} {G : Nat} {c : Code} {N K : Nat} {F : Fr} {h : AH} : exec P O G 0 c N K F h = none := rfl
theorem exec_succ {P : Program} {O : CallF} {G n : Nat} {c : Code} {N K : Nat} {F : Fr} {h : AH} : exec P O G (n + 1) c N K F h =
    match c with
    | .skip => some (.normal, F, h)
    | .region _ ops false => outN (keeps K ops.toList) (runOps P G (callA P O G n) N ops.toList ops.toList F h)
    | .region _ ops true => outN (keeps K ops.toList) (runDraw P G (callA P O G n) N ops.toList F h)
    | .seq a b => match exec P O G n a N K F h with
      | some (.normal, F', h') => exec P O G n b N K F' h'
      | r => r
    | .cond x a b => match evalA G F x with
      | some (.bool true) => exec P O G n a N K F h
      | some (.bool false) => exec P O G n b N K F h
      | _ => none
    | .block id b => match exec P O G n b N K F h with
      | some (.exit id', F', h') => match Nat.beq id' id with
        | true => some (.normal, F', h')
        | false => some (.exit id', F', h')
      | r => r
    | .loop b => match exec P O G n b N K F h with
      | some (.normal, F', h') => exec P O G n (.loop b) N K F' h'
      | r => r
    | .exit id => some (.exit id, F, h)
    | .label _ => some (.normal, F, h)
    | .ret => some (.ret, F, h)
    | _ => none := by
  cases c <;> try rfl
  rename_i id ops d
  cases d <;> rfl

def AH.empty : AH := ⟨.e, .e, 1⟩

end
end Go.Proofs.Ytllldiokcnheiaa.Ab
