/- Finite maps, plain values, a deterministic memory, integers, memory operations, slices: each plain step is shown to follow the model's, for every world that the plain memory stands for. -/
import Derived.Calls
import Derived.Orders
import Derived.Laws.World
import Derived.Below
import Derived.Laws.CopyRow
import Derived.IntWalk
import Derived.Laws.Append
import Derived.Laws.Tables

namespace Go.Proofs.Ytllldiokcnheiaa.Ab
noncomputable section

/-- A finite map from numbers. -/
inductive PM (α : Type) where
  | e
  | n (v : Option α) (l r : PM α)

namespace PM
variable {α : Type}

def pick {β : Type} (k : Nat) (z : β) (o e : Nat → β) : β :=
  match Nat.beq k 0 with
  | true => z
  | false =>
    match Nat.beq (Nat.mod k 2) 1 with
    | true => o (Nat.div k 2)
    | false => e (Nat.sub (Nat.div k 2) 1)

theorem pick_eq {β : Type} (k : Nat) (z : β) (o e : Nat → β) : pick k z o e = if k = 0 then z else if k % 2 = 1 then o (k / 2) else e (k / 2 - 1) := by
  unfold pick
  by_cases h : k = 0
  · subst h; rfl
  · have h1 : Nat.beq k 0 = false := by rw [← Bool.not_eq_true, Nat.beq_eq]; exact h
    rw [h1, if_neg h]
    by_cases h2 : k % 2 = 1
    · have h3 : Nat.beq (Nat.mod k 2) 1 = true := by rw [Nat.beq_eq]; exact h2
      rw [h3, if_pos h2]; rfl
    · have h3 : Nat.beq (Nat.mod k 2) 1 = false := by rw [← Bool.not_eq_true, Nat.beq_eq]; exact h2
      rw [h3, if_neg h2]; rfl

noncomputable def get (t : PM α) : Nat → Option α :=
  PM.rec (motive := fun _ => Nat → Option α) (fun _ => none) (fun v _ _ gl gr k => pick k v gl gr) t

noncomputable def fresh (x : Option α) (d : Nat) : Nat → PM α :=
  Nat.rec (motive := fun _ => Nat → PM α) (fun _ => .e) (fun _ ih k => pick k (.n x .e .e) (fun k => .n none (ih k) .e) (fun k => .n none .e (ih k))) d

noncomputable def put (t : PM α) (k : Nat) (x : Option α) : PM α :=
  PM.rec (motive := fun _ => Nat → PM α) (fun k => fresh x (Nat.succ k) k) (fun v l r pl pr k => pick k (.n x l r) (fun k => .n v (pl k) r) (fun k => .n v l (pr k))) t k
noncomputable def set (t : PM α) (k : Nat) (x : α) : PM α := t.put k (some x)

theorem get_e (k : Nat) : (PM.e : PM α).get k = none := rfl

theorem get_n (v : Option α) (l r : PM α) (k : Nat) :
    (PM.n v l r).get k = if k = 0 then v else if k % 2 = 1 then l.get (k / 2) else r.get (k / 2 - 1) := pick_eq _ _ _ _

theorem fresh_s (d : Nat) (k : Nat) (x : Option α) :
    fresh x (d + 1) k = if k = 0 then .n x .e .e else if k % 2 = 1 then .n none (fresh x d (k / 2)) .e else .n none .e (fresh x d (k / 2 - 1)) :=
  pick_eq k (PM.n x .e .e) (fun k => .n none (fresh x d k) .e) (fun k => .n none .e (fresh x d k))

theorem put_e (k : Nat) (x : Option α) : (PM.e : PM α).put k x = fresh x (k + 1) k := rfl
theorem put_n (v : Option α) (l r : PM α) (k : Nat) (x : Option α) :
    (PM.n v l r).put k x = if k = 0 then .n x l r else if k % 2 = 1 then .n v (l.put (k / 2) x) r else .n v l (r.put (k / 2 - 1) x) :=
  pick_eq k (PM.n x l r) (fun k => .n v (l.put k x) r) (fun k => .n v l (r.put k x))

theorem get_fresh (x : Option α) : ∀ (d k j : Nat), k < d → (fresh x d k).get j = if j = k then x else none
  | 0, k, j, h => by omega
  | d + 1, k, j, h => by
    have ih := get_fresh x d
    rw [fresh_s]
    by_cases hk : k = 0
    · rw [if_pos hk, get_n]; subst hk
      by_cases hj : j = 0
      · rw [if_pos hj, if_pos hj]
      · rw [if_neg hj, if_neg hj]; split <;> rfl
    · rw [if_neg hk]
      by_cases hk2 : k % 2 = 1
      · rw [if_pos hk2, get_n]
        by_cases hj : j = 0
        · rw [if_pos hj, if_neg (by omega)]
        · rw [if_neg hj]
          by_cases hj2 : j % 2 = 1
          · rw [if_pos hj2, ih _ _ (by omega)]
            by_cases e : j = k
            · rw [if_pos e, if_pos (by omega)]
            · rw [if_neg e, if_neg (by omega)]
          · rw [if_neg hj2, if_neg (by omega)]; rfl
      · rw [if_neg hk2, get_n]
        by_cases hj : j = 0
        · rw [if_pos hj, if_neg (by omega)]
        · rw [if_neg hj]
          by_cases hj2 : j % 2 = 1
          · rw [if_pos hj2, if_neg (by omega)]; rfl
          · rw [if_neg hj2, ih _ _ (by omega)]
            by_cases e : j = k
            · rw [if_pos e, if_pos (by omega)]
            · rw [if_neg e, if_neg (by omega)]

theorem get_put (t : PM α) : ∀ (k j : Nat) (x : Option α), (t.put k x).get j = if j = k then x else t.get j := by
  induction t with
  | e => intro k j x; rw [put_e, get_fresh x _ _ _ (Nat.lt_succ_self k)]; rfl
  | n v l r ihl ihr =>
    intro k j x
    rw [put_n]
    by_cases hk : k = 0
    · rw [if_pos hk, get_n, get_n]; subst hk
      by_cases hj : j = 0
      · rw [if_pos hj, if_pos hj]
      · rw [if_neg hj, if_neg hj, if_neg hj]
    · rw [if_neg hk]
      by_cases hk2 : k % 2 = 1
      · rw [if_pos hk2, get_n, get_n]
        by_cases hj : j = 0
        · rw [if_pos hj, if_pos hj, if_neg (by omega)]
        · rw [if_neg hj, if_neg hj]
          by_cases hj2 : j % 2 = 1
          · rw [if_pos hj2, if_pos hj2, ihl]
            by_cases e : j = k
            · rw [if_pos e, if_pos (by omega)]
            · rw [if_neg e, if_neg (by omega)]
          · rw [if_neg hj2, if_neg hj2, if_neg (by omega)]
      · rw [if_neg hk2, get_n, get_n]
        by_cases hj : j = 0
        · rw [if_pos hj, if_pos hj, if_neg (by omega)]
        · rw [if_neg hj, if_neg hj]
          by_cases hj2 : j % 2 = 1
          · rw [if_pos hj2, if_pos hj2, if_neg (by omega)]
          · rw [if_neg hj2, if_neg hj2, ihr]
            by_cases e : j = k
            · rw [if_pos e, if_pos (by omega)]
            · rw [if_neg e, if_neg (by omega)]

theorem get_set (t : PM α) (k j : Nat) (x : α) : (t.set k x).get j = if j = k then some x else t.get j := get_put _ _ _ _

end PM

/-- Plain values: blocks have names of their own. -/
inductive AV where
  | bool (b : Bool)
  | int (k : IntKind) (n : Int)
  | str (s : ByteArray)
  | nilp
  | ptr (b off : Nat)
  | nils
  | sl (b off len cap sz : Nat) (ex : Bool)
  | nilm
  | map (b : Nat)
  | fn (f : Fn) (first cap : List AV)
  | nilf
  | iface (t : TypeId) (v : AV)
  | nili
  | agg (cs : List AV)
  | tup (vs : List AV)
  deriving Inhabited

/-- Where a named block lies: the block, the first cell, and how many cells that block has in all. -/
structure Loc where
  blk : Nat
  off : Nat
  size : Nat

abbrev Places := Nat → Option Loc

mutual
/-- A plain value stands for a value of the model. -/
inductive VRel (μ : Places) : AV → Value → Prop where
  | bool (b : Bool) : VRel μ (.bool b) (.bool b)
  | int (k : IntKind) (n : Int) : VRel μ (.int k n) (.int k n)
  | str (s : ByteArray) : VRel μ (.str s) (.string s)
  | nilp : VRel μ .nilp (.pointer none)
  | ptr {b off : Nat} {L : Loc} (h : μ b = some L) : VRel μ (.ptr b off) (.pointer (some ⟨L.blk, L.off + off, none⟩))
  | nils : VRel μ .nils (.slice none 0 0)
  | sl {b off len cap sz c : Nat} {ex : Bool} {L : Loc} {A : Addr} (h : μ b = some L) (hA : c ≠ 0 → A = ⟨L.blk, L.off + off, none⟩) (hl : len ≤ c) (hc : cap ≤ c) (he : ex = true → c = cap)
      (hz : ex = false → c ≠ 0 → L.off + off + c * sz ≤ L.size) : VRel μ (.sl b off len cap sz ex) (.slice (some A) len c)
  | nilm : VRel μ .nilm (.map none)
  | map {b : Nat} {L : Loc} (h : μ b = some L) : VRel μ (.map b) (.map (some L.blk))
  | fn {f : Fn} {as bs : List AV} {xs ys : List Value} (h : VRels μ as xs) (h' : VRels μ bs ys) : VRel μ (.fn f as bs) (.func f xs.toArray ys.toArray)
  | nilf : VRel μ .nilf .nilFunc
  | iface {t : TypeId} {a : AV} {v : Value} (h : VRel μ a v) : VRel μ (.iface t a) (.iface t v)
  | nili : VRel μ .nili .nilIface
  | agg {as : List AV} {xs : List Value} (h : VRels μ as xs) : VRel μ (.agg as) (.agg xs.toArray)
  | tup {as : List AV} {xs : List Value} (h : VRels μ as xs) : VRel μ (.tup as) (.tuple xs.toArray)
inductive VRels (μ : Places) : List AV → List Value → Prop where
  | nil : VRels μ [] []
  | cons {a : AV} {v : Value} {as : List AV} {vs : List Value} (h : VRel μ a v) (t : VRels μ as vs) : VRels μ (a :: as) (v :: vs)
end

/-- More places. -/
def Le (μ ν : Places) : Prop := ∀ b L, μ b = some L → ν b = some L

theorem Le.refl (μ : Places) : Le μ μ := fun _ _ h => h
theorem Le.trans {μ ν ξ : Places} (h : Le μ ν) (k : Le ν ξ) : Le μ ξ := fun b L e => k b L (h b L e)

mutual
theorem VRel.mono {μ ν : Places} (hle : Le μ ν) : ∀ {a : AV} {v : Value}, VRel μ a v → VRel ν a v
  | _, _, .bool b => .bool b
  | _, _, .int k n => .int k n
  | _, _, .str s => .str s
  | _, _, .nilp => .nilp
  | _, _, .ptr h => .ptr (hle _ _ h)
  | _, _, .nils => .nils
  | _, _, .sl h hA hl hc he hz => .sl (hle _ _ h) hA hl hc he hz
  | _, _, .nilm => .nilm
  | _, _, .map h => .map (hle _ _ h)
  | _, _, .fn h h' => .fn (VRels.mono hle h) (VRels.mono hle h')
  | _, _, .nilf => .nilf
  | _, _, .iface h => .iface (VRel.mono hle h)
  | _, _, .nili => .nili
  | _, _, .agg h => .agg (VRels.mono hle h)
  | _, _, .tup h => .tup (VRels.mono hle h)
theorem VRels.mono {μ ν : Places} (hle : Le μ ν) : ∀ {as : List AV} {vs : List Value}, VRels μ as vs → VRels ν as vs
  | _, _, .nil => .nil
  | _, _, .cons h t => .cons (VRel.mono hle h) (VRels.mono hle t)
end

namespace VRels
variable {μ : Places}
theorem length : ∀ {as : List AV} {vs : List Value}, VRels μ as vs → as.length = vs.length
  | _, _, .nil => rfl
  | _, _, .cons _ t => by simp [t.length]
theorem get : ∀ {as : List AV} {vs : List Value}, VRels μ as vs → ∀ (i : Nat) (a : AV), as[i]? = some a → ∃ v, vs[i]? = some v ∧ VRel μ a v
  | _, _, .nil, i, a, h => by simp at h
  | _, _, .cons hv t, 0, a, h => by simp at h; subst h; exact ⟨_, by simp, hv⟩
  | _, _, .cons hv t, i + 1, a, h => by simpa using t.get i a (by simpa using h)
theorem append : ∀ {as bs : List AV} {vs ws : List Value}, VRels μ as vs → VRels μ bs ws → VRels μ (as ++ bs) (vs ++ ws)
  | _, _, _, _, .nil, k => k
  | _, _, _, _, .cons h t, k => .cons h (t.append k)
theorem drop : ∀ {as : List AV} {vs : List Value} (n : Nat), VRels μ as vs → VRels μ (as.drop n) (vs.drop n)
  | _, _, 0, h => h
  | _, _, n + 1, .nil => .nil
  | _, _, n + 1, .cons _ t => by simpa using t.drop n
theorem take : ∀ {as : List AV} {vs : List Value} (n : Nat), VRels μ as vs → VRels μ (as.take n) (vs.take n)
  | _, _, 0, _ => .nil
  | _, _, n + 1, .nil => .nil
  | _, _, n + 1, .cons h t => by simpa using VRels.cons h (t.take n)
theorem of_get : ∀ {as : List AV} {vs : List Value}, as.length = vs.length → (∀ (i : Nat) (a : AV) (v : Value), as[i]? = some a → vs[i]? = some v → VRel μ a v) → VRels μ as vs
  | [], [], _, _ => .nil
  | [], _ :: _, h, _ => by simp at h
  | _ :: _, [], h, _ => by simp at h
  | a :: as, v :: vs, h, k => .cons (k 0 a v rfl rfl) (of_get (by simpa using h) fun i a' v' h1 h2 => k (i + 1) a' v' (by simpa using h1) (by simpa using h2))
theorem map {α : Type} {f : α → AV} {g : α → Value} : ∀ (l : List α), (∀ x ∈ l, VRel μ (f x) (g x)) → VRels μ (l.map f) (l.map g)
  | [], _ => .nil
  | x :: l, h => .cons (h x (by simp)) (map l fun y hy => h y (by simp [hy]))
theorem set : ∀ {as : List AV} {vs : List Value} (i : Nat) {a : AV} {v : Value}, VRels μ as vs → VRel μ a v → VRels μ (as.set i a) (vs.set i v)
  | _, _, _, _, _, .nil, _ => .nil
  | _, _, 0, _, _, .cons _ t, h => .cons h t
  | _, _, i + 1, _, _, .cons h0 t, h => .cons h0 (t.set i h)
theorem replicate (n : Nat) {a : AV} {v : Value} (h : VRel μ a v) : VRels μ (List.replicate n a) (List.replicate n v) := by
  induction n with
  | zero => exact .nil
  | succ n ih => simpa [List.replicate_succ] using VRels.cons h ih
theorem flatten : ∀ {ass : List (List AV)} {vss : List (List Value)}, ass.length = vss.length → (∀ (i : Nat) (as : List AV) (vs : List Value), ass[i]? = some as → vss[i]? = some vs → VRels μ as vs) → VRels μ ass.flatten vss.flatten
  | [], [], _, _ => .nil
  | [], _ :: _, h, _ => by simp at h
  | _ :: _, [], h, _ => by simp at h
  | as :: ass, vs :: vss, h, k => by
    simpa using VRels.append (k 0 as vs rfl rfl) (flatten (by simpa using h) fun i as' vs' h1 h2 => k (i + 1) as' vs' (by simpa using h1) (by simpa using h2))
end VRels

end
end Go.Proofs.Ytllldiokcnheiaa.Ab

namespace Go.Proofs.Ytllldiokcnheiaa.Ab
noncomputable section

inductive Blk where
  | cells (cs : List AV) (fam : Nat)
  | map (es : List (AV × AV × Nat)) (clock : Nat)
  | it (s : ByteArray) (pos : Nat)

def Blk.fam? : Blk → Option Nat
  | .cells _ f => some f
  | _ => none

/-- May it be written? (Family 0: what came in and is only read.) -/
def Blk.wr : Blk → Prop
  | .cells _ f => f ≠ 0
  | _ => True

structure AH where
  blocks : PM Blk
  fams : PM (List Nat)
  next : Nat

def AH.at (h : AH) (b : Nat) : Option Blk := h.blocks.get b

inductive ERel (μ : Places) : List (AV × AV × Nat) → List MapEntry → Prop where
  | nil : ERel μ [] []
  | cons {k v : AV} {key val : Value} {n : Nat} {es : List (AV × AV × Nat)} {cs : List MapEntry} (hk : VRel μ k key) (hv : VRel μ v val) (h : ERel μ es cs) :
      ERel μ ((k, v, n) :: es) ({ key, val, born := n } :: cs)

theorem ERel.mono {μ ν : Places} (hle : Le μ ν) : ∀ {es : List (AV × AV × Nat)} {cs : List MapEntry}, ERel μ es cs → ERel ν es cs
  | _, _, .nil => .nil
  | _, _, .cons hk hv h => .cons (hk.mono hle) (hv.mono hle) (h.mono hle)

def BlkRel (μ : Places) (w : World) (b : Nat) : Blk → Prop
  | .cells cs f => ∃ L c t fr vs, μ b = some L ∧ w.heap[L.blk]? = some (.cells c t fr) ∧ c.size = L.size ∧ (f ≠ 0 → fr = (0, 0)) ∧ VRels μ cs vs ∧
      L.off + vs.length ≤ c.size ∧ ∀ (i : Nat) (v : Value), vs[i]? = some v → c[L.off + i]? = some v
  | .map es k => ∃ L ces, μ b = some L ∧ w.heap[L.blk]? = some (.map ces k) ∧ ERel μ es ces.toList
  | .it s p => ∃ L, μ b = some L ∧ L.off = 0 ∧ w.heap[L.blk]? = some (.stringIter s p)

theorem BlkRel.place {μ : Places} {w : World} {b : Nat} {B : Blk} (h : BlkRel μ w b B) : ∃ L, μ b = some L := by
  cases B with
  | cells cs f => obtain ⟨L, _, _, _, _, h, _⟩ := h; exact ⟨L, h⟩
  | map es k => obtain ⟨L, _, h, _⟩ := h; exact ⟨L, h⟩
  | it s p => obtain ⟨L, h, _⟩ := h; exact ⟨L, h⟩

/-- A block of the picture stays as it stands where its block of the model does. -/
theorem BlkRel.move {μ ν : Places} {w w' : World} {b : Nat} {B : Blk} {L : Loc} (h : BlkRel μ w b B) (hle : Le μ ν) (hL : μ b = some L)
    (hw : w'.heap[L.blk]? = w.heap[L.blk]?) : BlkRel ν w' b B := by
  cases B with
  | cells cs f =>
    obtain ⟨M, c, t, fr, vs, hm, hh, hs, hf, hv, hl, hc⟩ := h
    rw [hL] at hm; cases hm
    exact ⟨L, c, t, fr, vs, hle _ _ hL, hw.trans hh, hs, hf, hv.mono hle, hl, hc⟩
  | map es k =>
    obtain ⟨M, ces, hm, hh, he⟩ := h
    rw [hL] at hm; cases hm
    exact ⟨L, ces, hle _ _ hL, hw.trans hh, he.mono hle⟩
  | it s p =>
    obtain ⟨M, hm, ho, hh⟩ := h
    rw [hL] at hm; cases hm
    exact ⟨L, hle _ _ hL, ho, hw.trans hh⟩

theorem BlkRel.lt {μ : Places} {w : World} {b : Nat} {B : Blk} {L : Loc} (h : BlkRel μ w b B) (hL : μ b = some L) : L.blk < w.heap.size := by
  have key : ∀ {o : Obj}, w.heap[L.blk]? = some o → L.blk < w.heap.size := fun h => (Array.getElem?_eq_some_iff.1 h).1
  cases B with
  | cells cs f => obtain ⟨M, c, t, fr, vs, hm, hh, _⟩ := h; rw [hL] at hm; cases hm; exact key hh
  | map es k => obtain ⟨M, ces, hm, hh, _⟩ := h; rw [hL] at hm; cases hm; exact key hh
  | it s p => obtain ⟨M, hm, _, hh⟩ := h; rw [hL] at hm; cases hm; exact key hh

/-- The picture stands for the world. -/
structure RelH (μ : Places) (h : AH) (w : World) : Prop where
  rel : ∀ b B, h.at b = some B → BlkRel μ w b B
  lt : ∀ b B, h.at b = some B → b < h.next
  pos : 0 < h.next
  famlt : ∀ b cs f, h.at b = some (.cells cs f) → f < h.next
  sep : ∀ b c B C L M, h.at b = some B → h.at c = some C → b ≠ c → μ b = some L → μ c = some M → L.blk = M.blk →
    ∃ f, B.fam? = some f ∧ C.fam? = some f ∧ (f ≠ 0 → L = M)
  fams : ∀ b cs f, h.at b = some (.cells cs f) → f ≠ 0 → ∃ l, h.fams.get f = some l ∧ b ∈ l

/-- One state follows another one: what was not to be written is as it was. -/
structure Adv (μ : Places) (h : AH) (w : World) (μ' : Places) (h' : AH) (w' : World) : Prop where
  next_le : h.next ≤ h'.next
  size_le : w.heap.size ≤ w'.heap.size
  agree : ∀ b, (b < h.next ∨ h'.next ≤ b) → μ' b = μ b
  le : Le μ μ'
  live : ∀ b B', h'.at b = some B' → (∃ B, h.at b = some B ∧ (B'.wr → B.wr)) ∨
    (h.next ≤ b ∧ b < h'.next ∧ ∃ L, μ' b = some L ∧ (w.heap.size ≤ L.blk ∨ ∃ c C M, h.at c = some C ∧ C.wr ∧ μ c = some M ∧ M.blk = L.blk))
  frame : ∀ k, k < w.heap.size → (∀ c C M, h.at c = some C → C.wr → μ c = some M → M.blk ≠ k) → w'.heap[k]? = w.heap[k]?
  os : w'.os = w.os
  tape : w'.tape = w.tape
  output : w'.output = w.output

theorem Adv.refl (μ : Places) (h : AH) (w : World) : Adv μ h w μ h w :=
  ⟨Nat.le_refl _, Nat.le_refl _, fun _ _ => rfl, Le.refl _, fun _ B' hb => .inl ⟨B', hb, id⟩, fun _ _ _ => rfl, rfl, rfl, rfl⟩

theorem Adv.trans {μ μ₁ μ₂ : Places} {h h₁ h₂ : AH} {w w₁ w₂ : World} (a : Adv μ h w μ₁ h₁ w₁) (b : Adv μ₁ h₁ w₁ μ₂ h₂ w₂) (hr : RelH μ h w) : Adv μ h w μ₂ h₂ w₂ where
  next_le := Nat.le_trans a.next_le b.next_le
  size_le := Nat.le_trans a.size_le b.size_le
  agree := fun c hc => by
    have h1 := a.next_le
    have h2 := b.next_le
    rw [b.agree c (by omega), a.agree c (by omega)]
  le := a.le.trans b.le
  live := fun c C hc => by
    have h1 := a.next_le
    have h2 := b.next_le
    rcases b.live c C hc with ⟨C₁, hC₁, hw₁⟩ | ⟨hl, hg, L, hL, hor⟩
    · rcases a.live c C₁ hC₁ with ⟨C₀, hC₀, hw₀⟩ | ⟨hl, hg, L, hL, hor⟩
      · exact .inl ⟨C₀, hC₀, fun h => hw₀ (hw₁ h)⟩
      · exact .inr ⟨hl, by omega, L, b.le _ _ hL, hor⟩
    · refine .inr ⟨by omega, hg, L, hL, ?_⟩
      rcases hor with hs | ⟨d, D, M, hD, hwD, hM, he⟩
      · exact .inl (Nat.le_trans a.size_le hs)
      · rcases a.live d D hD with ⟨D₀, hD₀, hw₀⟩ | ⟨hl', hg', L', hL', hor'⟩
        · refine .inr ⟨d, D₀, M, hD₀, hw₀ hwD, ?_, he⟩
          rw [← a.agree d (.inl (hr.lt _ _ hD₀))]; exact hM
        · rw [hM] at hL'; cases hL'
          rcases hor' with hs | ⟨d', D', M', hD', hwD', hM', he'⟩
          · exact .inl (he ▸ hs)
          · exact .inr ⟨d', D', M', hD', hwD', hM', he'.trans he⟩
  frame := fun k hk hno => by
    rw [b.frame k (Nat.lt_of_lt_of_le hk a.size_le) ?_, a.frame k hk hno]
    intro c C M hC hw hM he
    rcases a.live c C hC with ⟨C₀, hC₀, hw₀⟩ | ⟨hl, hg, L, hL, hor⟩
    · refine hno c C₀ M hC₀ (hw₀ hw) ?_ he
      rw [← a.agree c (.inl (hr.lt _ _ hC₀))]; exact hM
    · rw [hM] at hL; cases hL
      rcases hor with hs | ⟨d', D', M', hD', hwD', hM', he'⟩
      · omega
      · exact hno d' D' M' hD' hwD' hM' (he'.trans he)
  os := b.os.trans a.os
  tape := b.tape.trans a.tape
  output := b.output.trans a.output

/-! ### Reading -/

def AH.loadL (h : AH) (b off n : Nat) : Option (List AV) :=
  match h.at b with
  | some (.cells cs _) => match Nat.ble (off + n) cs.length with
    | true => some ((cs.drop off).take n)
    | false => none
  | _ => none

def AH.load1 (h : AH) (b off : Nat) : Option AV :=
  match h.at b with
  | some (.cells cs _) => cs[off]?
  | _ => none

theorem addr_add (g o i : Nat) : (⟨g, o, none⟩ : Addr).add i = ⟨g, o + i, none⟩ := by unfold Addr.add; split <;> simp_all

theorem RelH.load1 {μ : Places} {h : AH} {w : World} (hr : RelH μ h w) {b off : Nat} {a : AV} (hl : h.load1 b off = some a) :
    ∃ L v, μ b = some L ∧ VRel μ a v ∧ w.cell? ⟨L.blk, L.off + off, none⟩ = some v := by
  unfold AH.load1 at hl
  split at hl
  · rename_i cs f hb
    obtain ⟨L, c, t, fr, vs, hm, hh, hs, hf, hv, hle, hc⟩ := hr.rel _ _ hb
    obtain ⟨v, hv1, hv2⟩ := hv.get off a hl
    exact ⟨L, v, hm, hv2, by simp [World.cell?, hh, hc _ _ hv1]⟩
  · cases hl

theorem RelH.loadL {μ : Places} {h : AH} {w : World} (P : Program) (hr : RelH μ h w) {b off n : Nat} {as : List AV} (hl : h.loadL b off n = some as) :
    ∃ L vs, μ b = some L ∧ VRels μ as vs ∧ (∀ w' : World, w'.heap = w.heap → (loadCells ⟨L.blk, L.off + off, none⟩ n).run P w' = .ok vs.toArray w') ∧ as.length = n := by
  unfold AH.loadL at hl
  split at hl
  · rename_i cs f hb
    obtain ⟨L, c, t, fr, vs, hm, hh, hs, hf, hv, hle, hc⟩ := hr.rel _ _ hb
    split at hl
    · rename_i hble
      have hlen : off + n ≤ cs.length := Nat.le_of_ble_eq_true hble
      cases hl
      have hvl := hv.length
      refine ⟨L, (vs.drop off).take n, hm, (hv.drop off).take n, fun w' hw => ?_, by simp; omega⟩
      have hn : ((vs.drop off).take n).length = n := by simp; omega
      have := run_loadCells_list (P := P) w' ⟨L.blk, L.off + off, none⟩ ((vs.drop off).take n) (fun j v hj => by
        rw [addr_add]
        have hj' : vs[off + j]? = some v := by
          rw [List.getElem?_take] at hj
          split at hj
          · simpa using hj
          · cases hj
        have := hc (off + j) v hj'
        simp [World.cell?, hw, hh, Nat.add_assoc, this])
      rwa [hn] at this
    · cases hl
  · cases hl

/-! ### New blocks -/

def upd (μ : Places) (n : Nat) (L : Loc) : Places := fun b => if b = n then some L else μ b

theorem upd_same (μ : Places) (n : Nat) (L : Loc) : upd μ n L n = some L := by simp [upd]
theorem upd_other {μ : Places} {n b : Nat} {L : Loc} (h : b ≠ n) : upd μ n L b = μ b := by simp [upd, h]
theorem Le.upd {μ : Places} {n : Nat} {L : Loc} (h : μ n = none) : Le μ (upd μ n L) := fun b M hb => by
  by_cases e : b = n
  · subst e; rw [h] at hb; cases hb
  · rw [upd_other e]; exact hb

def AH.new (h : AH) (cs : List AV) : AH := ⟨h.blocks.set h.next (.cells cs h.next), h.fams.set h.next [h.next], Nat.succ h.next⟩
def AH.newObj (h : AH) (B : Blk) : AH := ⟨h.blocks.set h.next B, h.fams, Nat.succ h.next⟩

theorem AH.at_new (h : AH) (cs : List AV) (b : Nat) : (h.new cs).at b = if b = h.next then some (.cells cs h.next) else h.at b := PM.get_set _ _ _ _
theorem AH.at_newObj (h : AH) (B : Blk) (b : Nat) : (h.newObj B).at b = if b = h.next then some B else h.at b := PM.get_set _ _ _ _

theorem heap_alloc_lt (w : World) (o : Obj) {k : Nat} (h : k < w.heap.size) : (w.alloc o).heap[k]? = w.heap[k]? := by
  show (w.heap.push o)[k]? = _
  rw [Array.getElem?_push, if_neg (by omega)]

theorem heap_alloc_new (w : World) (o : Obj) : (w.alloc o).heap[w.heap.size]? = some o := by
  show (w.heap.push o)[w.heap.size]? = _
  simp

theorem Adv.of_new {μ : Places} {h h' : AH} {w : World} {o : Obj} {L : Loc} (hf : μ h.next = none) (hL : L.blk = w.heap.size) (hnext : h'.next = h.next + 1)
    (hat : ∀ b, b ≠ h.next → h'.at b = h.at b) : Adv μ h w (upd μ h.next L) h' (w.alloc o) where
  next_le := by omega
  size_le := by simp
  agree := fun b hb => upd_other (by omega)
  le := Le.upd hf
  live := fun b B hb => by
    by_cases e : b = h.next
    · subst e; exact .inr ⟨Nat.le_refl _, by omega, L, upd_same _ _ _, .inl (by omega)⟩
    · exact .inl ⟨B, by rw [← hat b e]; exact hb, id⟩
  frame := fun k hk _ => heap_alloc_lt w o hk
  os := rfl
  tape := rfl
  output := rfl

theorem RelH.new {μ : Places} {h : AH} {w : World} (hr : RelH μ h w) (hf : μ h.next = none) {cs : List AV} {vs : List Value} (hv : VRels μ cs vs) (c : Array Value) (t : TypeId)
    (hlen : vs.length ≤ c.size) (hc : ∀ (i : Nat) (v : Value), vs[i]? = some v → c[i]? = some v) :
    RelH (upd μ h.next ⟨w.heap.size, 0, c.size⟩) (h.new cs) (w.alloc (.cells c t)) ∧
      Adv μ h w (upd μ h.next ⟨w.heap.size, 0, c.size⟩) (h.new cs) (w.alloc (.cells c t)) := by
  have hle : Le μ (upd μ h.next ⟨w.heap.size, 0, c.size⟩) := Le.upd hf
  have hpos := hr.pos
  refine ⟨⟨?_, ?_, ?_, ?_, ?_, ?_⟩, Adv.of_new hf rfl rfl fun b hb => by rw [AH.at_new, if_neg hb]⟩
  · intro b B hb
    rw [AH.at_new] at hb
    split at hb
    · rename_i e; subst e; cases hb
      exact ⟨⟨w.heap.size, 0, c.size⟩, c, t, (0, 0), vs, upd_same _ _ _, heap_alloc_new _ _, rfl, fun _ => rfl, hv.mono hle, by simpa using hlen, by simpa using hc⟩
    · obtain ⟨L, hL⟩ := (hr.rel b B hb).place
      exact (hr.rel b B hb).move hle hL (heap_alloc_lt _ _ ((hr.rel b B hb).lt hL))
  · intro b B hb
    rw [AH.at_new] at hb
    show b < h.next + 1
    split at hb
    · omega
    · have := hr.lt _ _ hb; omega
  · show 0 < h.next + 1; omega
  · intro b cs' f hb
    rw [AH.at_new] at hb
    show f < h.next + 1
    split at hb
    · cases hb; omega
    · have := hr.famlt _ _ _ hb; omega
  · intro b d B D L M hb hd hne hL hM he
    rw [AH.at_new] at hb hd
    split at hb
    · rename_i e; subst e
      rw [upd_same] at hL; cases hL
      rw [if_neg (Ne.symm hne)] at hd
      rw [upd_other (Ne.symm hne)] at hM
      have := (hr.rel _ _ hd).lt hM
      simp at he; omega
    · rename_i e
      rw [upd_other e] at hL
      split at hd
      · rename_i e'; subst e'
        rw [upd_same] at hM; cases hM
        have := (hr.rel _ _ hb).lt hL
        simp at he; omega
      · rename_i e'
        rw [upd_other e'] at hM
        exact hr.sep b d B D L M hb hd hne hL hM he
  · intro b cs' f hb hf0
    rw [AH.at_new] at hb
    show ∃ l, (h.fams.set h.next [h.next]).get f = some l ∧ b ∈ l
    rw [PM.get_set]
    split at hb
    · cases hb; exact ⟨[h.next], by simp, by simp [*]⟩
    · have := hr.famlt _ _ _ hb
      rw [if_neg (by omega)]
      exact hr.fams _ _ _ hb hf0

/-- A new block that is no row of cells. -/
theorem RelH.newObj {μ : Places} {h : AH} {w : World} (hr : RelH μ h w) (hf : μ h.next = none) {B : Blk} (hB : B.fam? = none) (o : Obj)
    (hrel : ∀ ν L, Le μ ν → ν h.next = some L → L.off = 0 → L.blk = w.heap.size → BlkRel ν (w.alloc o) h.next B) :
    RelH (upd μ h.next ⟨w.heap.size, 0, 0⟩) (h.newObj B) (w.alloc o) ∧ Adv μ h w (upd μ h.next ⟨w.heap.size, 0, 0⟩) (h.newObj B) (w.alloc o) := by
  have hle : Le μ (upd μ h.next ⟨w.heap.size, 0, 0⟩) := Le.upd hf
  have hpos := hr.pos
  refine ⟨⟨?_, ?_, ?_, ?_, ?_, ?_⟩, Adv.of_new hf rfl rfl fun b hb => by rw [AH.at_newObj, if_neg hb]⟩
  · intro b C hb
    rw [AH.at_newObj] at hb
    split at hb
    · rename_i e; subst e; cases hb
      exact hrel _ _ hle (upd_same _ _ _) rfl rfl
    · obtain ⟨L, hL⟩ := (hr.rel b C hb).place
      exact (hr.rel b C hb).move hle hL (heap_alloc_lt _ _ ((hr.rel b C hb).lt hL))
  · intro b C hb
    rw [AH.at_newObj] at hb
    show b < h.next + 1
    split at hb
    · omega
    · have := hr.lt _ _ hb; omega
  · show 0 < h.next + 1; omega
  · intro b cs' f hb
    rw [AH.at_newObj] at hb
    show f < h.next + 1
    split at hb
    · cases hb; simp [Blk.fam?] at hB
    · have := hr.famlt _ _ _ hb; omega
  · intro b d C D L M hb hd hne hL hM he
    rw [AH.at_newObj] at hb hd
    split at hb
    · rename_i e; subst e
      rw [upd_same] at hL; cases hL
      rw [if_neg (Ne.symm hne)] at hd
      rw [upd_other (Ne.symm hne)] at hM
      have := (hr.rel _ _ hd).lt hM
      simp at he; omega
    · rename_i e
      rw [upd_other e] at hL
      split at hd
      · rename_i e'; subst e'
        rw [upd_same] at hM; cases hM
        have := (hr.rel _ _ hb).lt hL
        simp at he; omega
      · rename_i e'
        rw [upd_other e'] at hM
        exact hr.sep b d C D L M hb hd hne hL hM he
  · intro b cs' f hb hf0
    rw [AH.at_newObj] at hb
    split at hb
    · cases hb; simp [Blk.fam?] at hB
    · exact hr.fams _ _ _ hb hf0

/-! ### Writing -/

def AV.flat : AV → Bool
  | .agg _ | .tup _ => false
  | _ => true

theorem VRel.flat {μ : Places} {a : AV} {v : Value} (h : VRel μ a v) (hf : a.flat = true) : v.oneCell' = true := by
  cases h <;> first | rfl | (simp [AV.flat] at hf)

def allFlat : List AV → Bool
  | [] => true
  | a :: r => match a.flat with
    | true => allFlat r
    | false => false

theorem VRels.flat {μ : Places} : ∀ {as : List AV} {vs : List Value}, VRels μ as vs → allFlat as = true → ∀ v ∈ vs, v.oneCell' = true
  | _, _, .nil, _ => by simp
  | _, _, .cons (a := a) h t, hf => by
    unfold allFlat at hf
    split at hf
    · rename_i h1
      intro v hv
      rcases List.mem_cons.1 hv with rfl | hv
      · exact h.flat h1
      · exact t.flat hf v hv
    · cases hf

def setR (cs : List AV) (off : Nat) (vs : List AV) : List AV := cs.take off ++ vs ++ cs.drop (off + vs.length)

def kills (b : Nat) : List Nat → PM Blk → PM Blk
  | [], t => t
  | m :: r, t => match Nat.beq m b with
    | true => kills b r t
    | false => kills b r (t.put m none)

theorem get_kills (b : Nat) : ∀ (l : List Nat) (t : PM Blk) (j : Nat), (kills b l t).get j = if j ∈ l ∧ j ≠ b then none else t.get j
  | [], t, j => by simp [kills]
  | m :: r, t, j => by
    unfold kills
    split
    · rename_i h
      have hm : m = b := Nat.eq_of_beq_eq_true h
      rw [get_kills b r t j]
      by_cases hj : j = b
      · simp [hj]
      · simp [hj, hm]
    · rename_i h
      have hm : m ≠ b := Nat.ne_of_beq_eq_false h
      rw [get_kills b r _ j, PM.get_put]
      by_cases hj : j = b
      · subst hj; simp [Ne.symm hm]
      · by_cases hjm : j = m
        · subst hjm; simp [hj]
        · simp [hj, hjm]

def AH.storeL (h : AH) (b off : Nat) (vs : List AV) : Option AH :=
  match h.at b with
  | some (.cells cs f) =>
    match h.fams.get f with
    | some l =>
      match Nat.beq f 0 with
      | true => none
      | false =>
        match Nat.ble (off + vs.length) cs.length with
        | true =>
          match allFlat vs with
          | true => some ⟨(kills b l h.blocks).set b (.cells (setR cs off vs) f), h.fams.set f [b], h.next⟩
          | false => none
        | false => none
    | none => none
  | _ => none

theorem setR_length {cs : List AV} {off : Nat} {vs : List AV} (h : off + vs.length ≤ cs.length) : (setR cs off vs).length = cs.length := by
  simp [setR]; omega

theorem VRels.setR {μ : Places} {cs vs : List AV} {xs ys : List Value} (off : Nat) (h : VRels μ cs xs) (k : VRels μ vs ys) :
    VRels μ (Ab.setR cs off vs) (xs.take off ++ ys ++ xs.drop (off + ys.length)) := by
  unfold Ab.setR
  rw [k.length]
  exact ((h.take off).append k).append (h.drop _)

theorem heap_setRow_other (w : World) (g k : Nat) (cs : Array Value) (h : k ≠ g) : (w.setRow g cs).heap[k]? = w.heap[k]? := by
  simp only [World.setRow, Array.getElem?_modify]
  rw [if_neg (by omega)]

theorem seg_get (l ys : List Value) (o i : Nat) (h : o + ys.length ≤ l.length) :
    (l.take o ++ ys ++ l.drop (o + ys.length))[i]? = if o ≤ i ∧ i < o + ys.length then ys[i - o]? else l[i]? := by
  have ho : min o l.length = o := by omega
  by_cases h1 : i < o
  · rw [if_neg (by omega), List.append_assoc, List.getElem?_append_left (by simp; omega), List.getElem?_take, if_pos h1]
  · by_cases h2 : i < o + ys.length
    · rw [if_pos ⟨by omega, h2⟩, List.append_assoc, List.getElem?_append_right (by simp; omega), List.getElem?_append_left (by simp; omega)]
      simp [ho]
    · rw [if_neg (by omega), List.getElem?_append_right (by simp; omega), List.getElem?_drop]
      congr 1
      simp; omega

/-- A store, of as many cells as there are. -/
theorem RelH.storeL {μ : Places} {h h' : AH} {w : World} (P : Program) (hr : RelH μ h w) {b off : Nat} {as : List AV} {ys : List Value} (hs : h.storeL b off as = some h') (hy : VRels μ as ys) :
    ∃ L w', μ b = some L ∧ (storeCells ⟨L.blk, L.off + off, none⟩ ys).run P w = .ok () w' ∧ RelH μ h' w' ∧ Adv μ h w μ h' w' := by
  unfold AH.storeL at hs
  split at hs <;> try cases hs
  rename_i cs f hb
  split at hs <;> try cases hs
  rename_i l hl
  split at hs <;> try cases hs
  rename_i hf0
  split at hs <;> try cases hs
  rename_i hble
  split at hs <;> try cases hs
  rename_i hflat
  have hf : f ≠ 0 := Nat.ne_of_beq_eq_false hf0
  have hlen : off + as.length ≤ cs.length := Nat.le_of_ble_eq_true hble
  obtain ⟨L, c, t, fr, vs, hm, hh, hsz, hfr, hv, hle, hc⟩ := hr.rel _ _ hb
  have hfr' := hfr hf
  subst hfr'
  have hvl := hv.length
  have hyl := hy.length
  have hrun := run_storeCells_at P L.blk (L.off + off) t ys 0 c w hh (by omega) (hy.flat hflat)
  simp only [Nat.add_zero] at hrun
  have hat : ∀ j, AH.at ⟨(kills b l h.blocks).set b (.cells (Ab.setR cs off as) f), h.fams.set f [b], h.next⟩ j =
      if j = b then some (.cells (Ab.setR cs off as) f) else if j ∈ l ∧ j ≠ b then none else h.at j := by
    intro j
    show ((kills b l h.blocks).set b _).get j = _
    rw [PM.get_set, get_kills]
    rfl
  have hother : ∀ j B M, j ≠ b → ¬ (j ∈ l ∧ j ≠ b) → h.at j = some B → μ j = some M → M.blk ≠ L.blk := by
    intro j B M hne hnk hj hM he
    obtain ⟨g, hg1, hg2, _⟩ := hr.sep j b B _ M L hj hb hne hM hm he
    cases hg2
    cases B with
    | cells cs' f' =>
      cases hg1
      obtain ⟨l', hl', hmem⟩ := hr.fams _ _ _ hj hf
      rw [hl] at hl'; cases hl'
      exact hnk ⟨hmem, hne⟩
    | map _ _ => cases hg1
    | it _ _ => cases hg1
  refine ⟨L, _, hm, hrun, ⟨?_, ?_, hr.pos, ?_, ?_, ?_⟩, ⟨Nat.le_refl _, by simp [World.setRow], fun _ _ => rfl, Le.refl _, ?_, ?_, rfl, rfl, rfl⟩⟩
  · intro j B hj
    rw [hat] at hj
    split at hj
    · rename_i e; subst e; cases hj
      refine ⟨L, _, t, (0, 0), vs.take off ++ ys ++ vs.drop (off + ys.length), hm, setRow_heap w L.blk c _ t _ hh, ?_, fun _ => rfl, hv.setR off hy, ?_, ?_⟩
      · simp; omega
      · simp; omega
      · intro i v hi
        rw [seg_get _ _ _ _ (by omega)] at hi
        have hi' : i < vs.length := by
          split at hi
          · omega
          · exact (List.getElem?_eq_some_iff.1 hi).1
        rw [List.getElem?_toArray, seg_get _ _ _ _ (by simp; omega)]
        by_cases hin : off ≤ i ∧ i < off + ys.length
        · rw [if_pos hin] at hi
          rw [if_pos (by omega), show L.off + i - (L.off + off) = i - off by omega]
          exact hi
        · rw [if_neg hin] at hi
          rw [if_neg (by omega)]
          have := hc i v hi
          simpa using this
    · split at hj
      · cases hj
      · rename_i hne hnk
        obtain ⟨M, hM⟩ := (hr.rel j B hj).place
        exact (hr.rel j B hj).move (Le.refl _) hM (heap_setRow_other _ _ _ _ (hother j B M hne hnk hj hM))
  · intro j B hj
    rw [hat] at hj
    split at hj
    · rename_i e; subst e; exact hr.lt _ _ hb
    · split at hj
      · cases hj
      · exact hr.lt _ _ hj
  · intro j cs' f' hj
    rw [hat] at hj
    split at hj
    · cases hj; exact hr.famlt _ _ _ hb
    · split at hj
      · cases hj
      · exact hr.famlt _ _ _ hj
  · intro j d B D M N hj hd hne hM hN he
    rw [hat] at hj hd
    split at hj
    · rename_i e; subst e; cases hj
      rw [if_neg (Ne.symm hne)] at hd
      split at hd
      · cases hd
      · rename_i hnk
        rw [hm] at hM; cases hM
        exact absurd he.symm (hother d D N (Ne.symm hne) hnk hd hN)
    · rename_i e
      split at hj
      · cases hj
      · rename_i hnk
        split at hd
        · rename_i e'; subst e'
          rw [hm] at hN; cases hN
          exact absurd he (hother j B M e hnk hj hM)
        · split at hd
          · cases hd
          · exact hr.sep j d B D M N hj hd hne hM hN he
  · intro j cs' f' hj hf'
    rw [hat] at hj
    show ∃ l', (h.fams.set f [b]).get f' = some l' ∧ j ∈ l'
    rw [PM.get_set]
    split at hj
    · rename_i e; subst e; cases hj
      exact ⟨[j], by simp, by simp⟩
    · split at hj
      · cases hj
      · rename_i hne hnk
        obtain ⟨l', hl', hmem⟩ := hr.fams _ _ _ hj hf'
        by_cases e : f' = f
        · subst e; rw [hl] at hl'; cases hl'
          exact absurd ⟨hmem, hne⟩ hnk
        · rw [if_neg e]; exact ⟨l', hl', hmem⟩
  · intro j B hj
    rw [hat] at hj
    split at hj
    · rename_i e; subst e; cases hj
      exact .inl ⟨_, hb, fun h => h⟩
    · split at hj
      · cases hj
      · exact .inl ⟨B, hj, id⟩
  · intro k hk hno
    exact heap_setRow_other _ _ _ _ (Ne.symm (hno b _ L hb hf hm))

end
end Go.Proofs.Ytllldiokcnheiaa.Ab

namespace Go.Proofs.Ytllldiokcnheiaa.Ab
noncomputable section

def cull (n : Nat) : List Nat → PM Blk → PM Blk × List Nat
  | [], t => (t, [])
  | m :: r, t =>
    match t.get m with
    | some (.cells cs _) =>
      match Nat.ble cs.length n with
      | true => ((cull n r t).1, m :: (cull n r t).2)
      | false => cull n r (t.put m none)
    | _ => cull n r t

theorem cull_spec (n : Nat) : ∀ (l : List Nat) (t : PM Blk),
    (∀ j B, (cull n l t).1.get j = some B → t.get j = some B) ∧
    (∀ j cs f, j ∈ l → (cull n l t).1.get j = some (.cells cs f) → cs.length ≤ n ∧ j ∈ (cull n l t).2)
  | [], t => ⟨fun _ _ h => h, fun j _ _ h => by simp at h⟩
  | m :: r, t => by
    unfold cull
    split
    · rename_i cs f hm
      split
      · rename_i hble
        have ih := cull_spec n r t
        refine ⟨ih.1, fun j cs' f' hj hg => ?_⟩
        rcases List.mem_cons.1 hj with e | hj
        · subst e
          have := ih.1 _ _ hg
          rw [hm] at this; cases this
          exact ⟨Nat.le_of_ble_eq_true hble, by simp⟩
        · have := ih.2 j cs' f' hj hg
          exact ⟨this.1, List.mem_cons_of_mem _ this.2⟩
      · have ih := cull_spec n r (t.put m none)
        refine ⟨fun j B hg => ?_, fun j cs' f' hj hg => ?_⟩
        · have := ih.1 j B hg
          rw [PM.get_put] at this
          split at this
          · cases this
          · exact this
        · rcases List.mem_cons.1 hj with e | hj
          · subst e
            have := ih.1 _ _ hg
            rw [PM.get_put, if_pos rfl] at this; cases this
          · exact ih.2 j cs' f' hj hg
    · rename_i hno
      have ih := cull_spec n r t
      refine ⟨ih.1, fun j cs' f' hj hg => ?_⟩
      rcases List.mem_cons.1 hj with e | hj
      · subst e
        exact absurd (ih.1 _ _ hg) (hno _ _)
      · exact ih.2 j cs' f' hj hg

def killAll : List Nat → PM Blk → PM Blk
  | [], t => t
  | m :: r, t => killAll r (t.put m none)

theorem get_killAll : ∀ (l : List Nat) (t : PM Blk) (j : Nat), (killAll l t).get j = if j ∈ l then none else t.get j
  | [], t, j => by simp [killAll]
  | m :: r, t, j => by
    unfold killAll
    rw [get_killAll r _ j, PM.get_put]
    by_cases h1 : j ∈ r
    · simp [h1]
    · by_cases h2 : j = m
      · simp [h2]
      · simp [h1, h2]

def AH.grow (h : AH) (b off n : Nat) (cs : List AV) : Option AH :=
  match h.at b with
  | some (.cells _ f) =>
    match Nat.beq f 0 with
    | true => none
    | false =>
      match h.fams.get f with
      | some l =>
        match Nat.beq off 0 with
        | true => some ⟨(cull n l h.blocks).1.set h.next (.cells cs f), h.fams.set f (h.next :: (cull n l h.blocks).2), Nat.succ h.next⟩
        | false => some ⟨(killAll l h.blocks).set h.next (.cells cs h.next), h.fams.set h.next [h.next], Nat.succ h.next⟩
      | none => none
  | _ => none

/-- What a growth leaves: the new block, and of the others no more than were there. -/
structure Grown (h : AH) (b off n : Nat) (cs : List AV) (h' : AH) : Prop where
  next : h'.next = h.next + 1
  ex : ∃ cs0 f l g, h.at b = some (.cells cs0 f) ∧ f ≠ 0 ∧ h.fams.get f = some l ∧ h'.at h.next = some (.cells cs g) ∧ g ≠ 0 ∧ g < h.next + 1 ∧
    (∀ j B, j ≠ h.next → h'.at j = some B → h.at j = some B) ∧
    (∀ j cs' , j ≠ h.next → h'.at j = some (.cells cs' f) → off = 0 ∧ cs'.length ≤ n ∧ g = f) ∧
    (∀ j cs' f', h'.at j = some (.cells cs' f') → f' ≠ 0 → ∃ l', h'.fams.get f' = some l' ∧ j ∈ l') ∧
    (∀ j cs', j ≠ h.next → h'.at j = some (.cells cs' g) → g = f)

theorem AH.grow_spec {μ : Places} {h h' : AH} {w : World} (hr : RelH μ h w) {b off n : Nat} {cs : List AV} (hg : h.grow b off n cs = some h') : Grown h b off n cs h' := by
  unfold AH.grow at hg
  split at hg <;> try cases hg
  rename_i cs0 f hb
  split at hg <;> try cases hg
  rename_i hf0
  have hf : f ≠ 0 := Nat.ne_of_beq_eq_false hf0
  split at hg <;> try cases hg
  rename_i l hl
  have hpos := hr.pos
  have hfl := hr.famlt _ _ _ hb
  split at hg
  · rename_i hoff
    have hoff : off = 0 := Nat.eq_of_beq_eq_true hoff
    cases hg
    have hsp := cull_spec n l h.blocks
    have hat : ∀ j, AH.at ⟨(cull n l h.blocks).1.set h.next (.cells cs f), h.fams.set f (h.next :: (cull n l h.blocks).2), Nat.succ h.next⟩ j =
        if j = h.next then some (.cells cs f) else (cull n l h.blocks).1.get j := fun j => PM.get_set _ _ _ _
    refine ⟨rfl, cs0, f, l, f, hb, hf, hl, by rw [hat, if_pos rfl], hf, by omega, ?_, ?_, ?_, fun _ _ _ _ => rfl⟩
    · intro j B hne hj
      rw [hat, if_neg hne] at hj
      exact hsp.1 j B hj
    · intro j cs' hne hj
      rw [hat, if_neg hne] at hj
      have hj0 := hsp.1 _ _ hj
      obtain ⟨l', hl', hm⟩ := hr.fams _ _ _ hj0 hf
      rw [hl] at hl'; cases hl'
      exact ⟨hoff, (hsp.2 _ _ _ hm hj).1, rfl⟩
    · intro j cs' f' hj hf'
      show ∃ l', (h.fams.set f (h.next :: (cull n l h.blocks).2)).get f' = some l' ∧ j ∈ l'
      rw [PM.get_set]
      rw [hat] at hj
      split at hj
      · rename_i e; subst e; cases hj; exact ⟨_, if_pos rfl, by simp⟩
      · have hj0 := hsp.1 _ _ hj
        obtain ⟨l', hl', hm⟩ := hr.fams _ _ _ hj0 hf'
        by_cases e : f' = f
        · subst e
          rw [hl] at hl'; cases hl'
          exact ⟨_, if_pos rfl, List.mem_cons_of_mem _ (hsp.2 _ _ _ hm hj).2⟩
        · rw [if_neg e]; exact ⟨l', hl', hm⟩
  · rename_i hoff
    cases hg
    have hat : ∀ j, AH.at ⟨(killAll l h.blocks).set h.next (.cells cs h.next), h.fams.set h.next [h.next], Nat.succ h.next⟩ j =
        if j = h.next then some (.cells cs h.next) else if j ∈ l then none else h.at j := fun j => by
      show ((killAll l h.blocks).set h.next _).get j = _
      rw [PM.get_set, get_killAll]; rfl
    have hdead : ∀ j cs', j ≠ h.next → ¬ (AH.at ⟨(killAll l h.blocks).set h.next (.cells cs h.next), h.fams.set h.next [h.next], Nat.succ h.next⟩ j = some (.cells cs' f)) := by
      intro j cs' hne hj
      rw [hat, if_neg hne] at hj
      split at hj
      · cases hj
      · rename_i hnl
        obtain ⟨l', hl', hm⟩ := hr.fams _ _ _ hj hf
        rw [hl] at hl'; cases hl'
        exact hnl hm
    refine ⟨rfl, cs0, f, l, h.next, hb, hf, hl, by rw [hat, if_pos rfl], by omega, by omega, ?_, ?_, ?_, ?_⟩
    · intro j B hne hj
      rw [hat, if_neg hne] at hj
      split at hj
      · cases hj
      · exact hj
    · intro j cs' hne hj
      exact absurd hj (hdead j cs' hne)
    · intro j cs' f' hj hf'
      show ∃ l', (h.fams.set h.next [h.next]).get f' = some l' ∧ j ∈ l'
      rw [PM.get_set]
      rw [hat] at hj
      split at hj
      · rename_i e; subst e; cases hj; exact ⟨_, if_pos rfl, by simp⟩
      · split at hj
        · cases hj
        · have := hr.famlt _ _ _ hj
          rw [if_neg (by omega)]
          exact hr.fams _ _ _ hj hf'
    · intro j cs' hne hj
      rw [hat, if_neg hne] at hj
      split at hj
      · cases hj
      · have := hr.famlt _ _ _ hj
        omega

/-- Into a new array. -/
theorem RelH.growNew {μ : Places} {h h' : AH} {w : World} (hr : RelH μ h w) (hf : μ h.next = none) {b off n : Nat} {cs : List AV} {vs : List Value}
    (hg : h.grow b off n cs = some h') (hv : VRels μ cs vs) (c : Array Value) (t : TypeId) (hlen : vs.length ≤ c.size) (hc : ∀ (i : Nat) (v : Value), vs[i]? = some v → c[i]? = some v) :
    RelH (upd μ h.next ⟨w.heap.size, 0, c.size⟩) h' (w.alloc (.cells c t)) ∧ Adv μ h w (upd μ h.next ⟨w.heap.size, 0, c.size⟩) h' (w.alloc (.cells c t)) := by
  obtain ⟨hnext, cs0, f, l, g, hb, hf0, hl, hnew, hg0, hgl, hold, hfam, hfams, hsame⟩ := AH.grow_spec hr hg
  have hle : Le μ (upd μ h.next ⟨w.heap.size, 0, c.size⟩) := Le.upd hf
  have hlt : ∀ j B, j ≠ h.next → h'.at j = some B → j < h.next := fun j B hne hj => hr.lt _ _ (hold j B hne hj)
  refine ⟨⟨?_, ?_, ?_, ?_, ?_, hfams⟩, ⟨by omega, by simp, fun b hb => upd_other (by omega), hle, ?_, fun k hk _ => heap_alloc_lt w _ hk, rfl, rfl, rfl⟩⟩
  · intro j B hj
    by_cases e : j = h.next
    · subst e; rw [hnew] at hj; cases hj
      exact ⟨⟨w.heap.size, 0, c.size⟩, c, t, (0, 0), vs, upd_same _ _ _, heap_alloc_new _ _, rfl, fun _ => rfl, hv.mono hle, by simpa using hlen, by simpa using hc⟩
    · have hj' := hold j B e hj
      obtain ⟨L, hL⟩ := (hr.rel j B hj').place
      exact (hr.rel j B hj').move hle hL (heap_alloc_lt _ _ ((hr.rel j B hj').lt hL))
  · intro j B hj
    by_cases e : j = h.next
    · omega
    · have := hlt j B e hj; omega
  · omega
  · intro j cs' f' hj
    by_cases e : j = h.next
    · subst e; rw [hnew] at hj; cases hj; omega
    · have := hr.famlt _ _ _ (hold _ _ e hj); omega
  · intro j d B D L M hj hd hne hL hM he
    by_cases e : j = h.next
    · subst e
      rw [upd_same] at hL; cases hL
      rw [upd_other (Ne.symm hne)] at hM
      have := (hr.rel _ _ (hold _ _ (Ne.symm hne) hd)).lt hM
      simp at he; omega
    · rw [upd_other e] at hL
      by_cases e' : d = h.next
      · subst e'
        rw [upd_same] at hM; cases hM
        have := (hr.rel _ _ (hold _ _ e hj)).lt hL
        simp at he; omega
      · rw [upd_other e'] at hM
        exact hr.sep j d B D L M (hold _ _ e hj) (hold _ _ e' hd) hne hL hM he
  · intro j B hj
    by_cases e : j = h.next
    · subst e; exact .inr ⟨Nat.le_refl _, by omega, _, upd_same _ _ _, .inl (Nat.le_refl _)⟩
    · exact .inl ⟨B, hold _ _ e hj, id⟩

/-- In place. -/
theorem RelH.growHere {μ : Places} {h h' : AH} {w : World} (P : Program) (hr : RelH μ h w) (hf : μ h.next = none) {b off n : Nat} {old new : List AV} {ys : List Value}
    (hload : h.loadL b off n = some old) (hg : h.grow b off n (old ++ new) = some h') (hy : VRels μ new ys) (hflat : allFlat new = true)
    {L : Loc} (hL : μ b = some L) (hroom : L.off + off + n + ys.length ≤ L.size) :
    ∃ w', (storeCells ⟨L.blk, L.off + off + n, none⟩ ys).run P w = .ok () w' ∧
      RelH (upd μ h.next ⟨L.blk, L.off + off, L.size⟩) h' w' ∧ Adv μ h w (upd μ h.next ⟨L.blk, L.off + off, L.size⟩) h' w' := by
  obtain ⟨hnext, cs0, f, l, g, hb, hf0, hl, hnew, hg0, hgl, hold, hfam, hfams, hsame⟩ := AH.grow_spec hr hg
  obtain ⟨L', c, t, fr, vs, hm, hh, hsz, hfr, hv, hle0, hc⟩ := hr.rel _ _ hb
  rw [hL] at hm; cases hm
  have hfr' := hfr hf0
  subst hfr'
  have hrun := run_storeCells_at P L.blk (L.off + off + n) t ys 0 c w hh (by omega) (hy.flat hflat)
  simp only [Nat.add_zero] at hrun
  refine ⟨_, hrun, ?_⟩
  have hle : Le μ (upd μ h.next ⟨L.blk, L.off + off, L.size⟩) := Le.upd hf
  have hlt : ∀ j B, j ≠ h.next → h'.at j = some B → j < h.next := fun j B hne hj => hr.lt _ _ (hold j B hne hj)
  unfold AH.loadL at hload
  rw [hb] at hload
  dsimp only at hload
  split at hload <;> try cases hload
  rename_i hble
  have hlen : off + n ≤ cs0.length := Nat.le_of_ble_eq_true hble
  have hvl := hv.length
  have hshare : ∀ j B M, j ≠ h.next → h'.at j = some B → μ j = some M → M.blk = L.blk → off = 0 ∧ g = f ∧ M = L ∧ ∃ cs', B = .cells cs' f ∧ cs'.length ≤ n := by
    intro j B M hne hj hM he
    have hj' := hold j B hne hj
    by_cases e : j = b
    · subst e
      rw [hb] at hj'; cases hj'
      rw [hL] at hM; cases hM
      obtain ⟨h1, h2, h3⟩ := hfam _ _ hne hj
      exact ⟨h1, h3, rfl, cs0, rfl, h2⟩
    · obtain ⟨f', hf1, hf2, hf3⟩ := hr.sep j b B _ M L hj' hb e hM hL he
      cases hf2
      cases B with
      | cells cs' f'' =>
        cases hf1
        obtain ⟨h1, h2, h3⟩ := hfam _ _ hne hj
        exact ⟨h1, h3, hf3 hf0, cs', rfl, h2⟩
      | map _ _ => cases hf1
      | it _ _ => cases hf1
  refine ⟨⟨?_, ?_, ?_, ?_, ?_, hfams⟩, ⟨by omega, by simp [World.setRow], fun b hb => upd_other (by omega), hle, ?_, ?_, rfl, rfl, rfl⟩⟩
  · intro j B hj
    by_cases e : j = h.next
    · subst e; rw [hnew] at hj; cases hj
      refine ⟨⟨L.blk, L.off + off, L.size⟩, _, t, (0, 0), (vs.drop off).take n ++ ys, upd_same _ _ _, setRow_heap w L.blk c _ t _ hh, ?_, fun _ => rfl,
        (((hv.drop off).take n).append hy).mono hle, ?_, ?_⟩
      · simp; omega
      · simp; omega
      · intro i v hi
        rw [List.getElem?_toArray]
        show (c.toList.take (L.off + off + n) ++ ys ++ c.toList.drop (L.off + off + n + ys.length))[L.off + off + i]? = some v
        rw [seg_get _ _ _ _ (by simp; omega)]
        have hn : ((vs.drop off).take n).length = n := by simp; omega
        by_cases hin : i < n
        · rw [if_neg (by omega)]
          rw [List.getElem?_append_left (by omega), List.getElem?_take, if_pos hin, List.getElem?_drop] at hi
          have := hc _ _ hi
          rw [← Nat.add_assoc] at this
          simpa using this
        · rw [List.getElem?_append_right (by omega), hn] at hi
          have hi' := (List.getElem?_eq_some_iff.1 hi).1
          rw [if_pos (by omega), show L.off + off + i - (L.off + off + n) = i - n by omega]
          exact hi
    · have hj' := hold j B e hj
      obtain ⟨M, hM⟩ := (hr.rel j B hj').place
      by_cases he : M.blk = L.blk
      · obtain ⟨h1, h2, h3, cs', h4, h5⟩ := hshare j B M e hj hM he
        subst h1; subst h3; subst h4
        obtain ⟨M', c', t', fr', vs', hm', hh', hsz', hfr', hv', hle', hc'⟩ := hr.rel _ _ hj'
        rw [hM] at hm'; cases hm'
        rw [hh] at hh'; cases hh'
        have hvl' := hv'.length
        refine ⟨M, _, t, (0, 0), vs', hle _ _ hM, setRow_heap w M.blk c _ t _ hh, ?_, fun _ => rfl, hv'.mono hle, ?_, ?_⟩
        · simp; omega
        · simp; omega
        · intro i v hi
          have hi' := (List.getElem?_eq_some_iff.1 hi).1
          rw [List.getElem?_toArray, seg_get _ _ _ _ (by simp; omega), if_neg (by omega)]
          simpa using hc' _ _ hi
      · exact (hr.rel j B hj').move hle hM (heap_setRow_other _ _ _ _ he)
  · intro j B hj
    by_cases e : j = h.next
    · omega
    · have := hlt j B e hj; omega
  · omega
  · intro j cs' f' hj
    by_cases e : j = h.next
    · subst e; rw [hnew] at hj; cases hj; omega
    · have := hr.famlt _ _ _ (hold _ _ e hj); omega
  · intro j d B D M N hj hd hne hM hN he
    by_cases e : j = h.next
    · subst e
      rw [upd_same] at hM; cases hM
      rw [upd_other (Ne.symm hne)] at hN
      rw [hnew] at hj; cases hj
      obtain ⟨h1, h2, h3, cs', h4, h5⟩ := hshare d D N (Ne.symm hne) hd hN he.symm
      subst h1; subst h2; subst h3; subst h4
      exact ⟨g, rfl, rfl, fun _ => rfl⟩
    · rw [upd_other e] at hM
      by_cases e' : d = h.next
      · subst e'
        rw [upd_same] at hN; cases hN
        rw [hnew] at hd; cases hd
        obtain ⟨h1, h2, h3, cs', h4, h5⟩ := hshare j B M hne hj hM he
        subst h1; subst h2; subst h3; subst h4
        exact ⟨g, rfl, rfl, fun _ => rfl⟩
      · rw [upd_other e'] at hN
        exact hr.sep j d B D M N (hold _ _ e hj) (hold _ _ e' hd) hne hM hN he
  · intro j B hj
    by_cases e : j = h.next
    · subst e; exact .inr ⟨Nat.le_refl _, by omega, _, upd_same _ _ _, .inr ⟨b, _, L, hb, hf0, hL, rfl⟩⟩
    · exact .inl ⟨B, hold _ _ e hj, id⟩
  · intro k hk hno
    exact heap_setRow_other _ _ _ _ (Ne.symm (hno b _ L hb hf0 hL))

/-- A draw turns nothing. -/
theorem RelH.drew {μ : Places} {h : AH} {w : World} (hr : RelH μ h w) : RelH μ h w.drew :=
  ⟨hr.rel, hr.lt, hr.pos, hr.famlt, hr.sep, hr.fams⟩
theorem Adv.drew {μ : Places} {h : AH} {w : World} : Adv μ h w μ h w.drew :=
  ⟨Nat.le_refl _, Nat.le_refl _, fun _ _ => rfl, Le.refl _, fun _ B' hb => .inl ⟨B', hb, id⟩, fun _ _ _ => rfl, rfl, rfl, rfl⟩

end
end Go.Proofs.Ytllldiokcnheiaa.Ab

namespace Go.Proofs.Ytllldiokcnheiaa.Ab
noncomputable section

theorem wrap_i64' (n : Int) : IntKind.i64.wrap n = (n + 9223372036854775808) % 18446744073709551616 - 9223372036854775808 := IntKind.wrap_i64 n

def wrapF (k : IntKind) (n : Int) : Int :=
  match k with
  | .i64 =>
    match n with
    | .ofNat m => match Nat.ble m 9223372036854775807 with
      | true => .ofNat m
      | false => (n + 9223372036854775808) % 18446744073709551616 - 9223372036854775808
    | .negSucc m => match Nat.ble m 9223372036854775807 with
      | true => .negSucc m
      | false => (n + 9223372036854775808) % 18446744073709551616 - 9223372036854775808
  | .u64 =>
    match n with
    | .ofNat m => .ofNat (Nat.mod m 18446744073709551616)
    | .negSucc m => (Int.negSucc m) % 18446744073709551616
  | .u8 =>
    match n with
    | .ofNat m => .ofNat (Nat.mod m 256)
    | .negSucc m => (Int.negSucc m) % 256
  | .u32 =>
    match n with
    | .ofNat m => .ofNat (Nat.mod m 4294967296)
    | .negSucc m => (Int.negSucc m) % 4294967296
  | k => k.wrap n

theorem wrapF_eq (k : IntKind) (n : Int) : wrapF k n = k.wrap n := by
  cases k <;> try rfl
  · rw [IntKind.wrap_i64]
    cases n with
    | ofNat m =>
      unfold wrapF; dsimp only
      split
      · rename_i h; have := Nat.le_of_ble_eq_true h; have e : Int.ofNat m = (m : Int) := rfl; rw [e]; omega
      · rfl
    | negSucc m =>
      unfold wrapF; dsimp only
      split
      · rename_i h; have := Nat.le_of_ble_eq_true h; omega
      · rfl
  · rw [IntKind.wrap_u8]; cases n <;> rfl
  · rw [IntKind.wrap_u32]; cases n <;> rfl
  · have : IntKind.u64.wrap n = n % 18446744073709551616 := by simp [IntKind.wrap, IntKind.bits, IntKind.signed]
    rw [this]; cases n <;> rfl

theorem wrapF_i64 {n : Int} (h : -9223372036854775808 ≤ n) (h' : n ≤ 9223372036854775807) : wrapF .i64 n = n := by
  rw [wrapF_eq, IntKind.wrap_i64]; omega

def ltF : Int → Int → Bool
  | .ofNat a, .ofNat b => Nat.ble (Nat.succ a) b
  | .ofNat _, .negSucc _ => false
  | .negSucc _, .ofNat _ => true
  | .negSucc a, .negSucc b => Nat.ble (Nat.succ b) a

def leF : Int → Int → Bool
  | .ofNat a, .ofNat b => Nat.ble a b
  | .ofNat _, .negSucc _ => false
  | .negSucc _, .ofNat _ => true
  | .negSucc a, .negSucc b => Nat.ble b a

def eqF : Int → Int → Bool
  | .ofNat a, .ofNat b => Nat.beq a b
  | .negSucc a, .negSucc b => Nat.beq a b
  | _, _ => false

theorem ltF_eq (a b : Int) : ltF a b = decide (a < b) := by
  rw [Bool.eq_iff_iff]
  cases a <;> cases b <;> simp [ltF] <;> omega
theorem leF_eq (a b : Int) : leF a b = decide (a ≤ b) := by
  rw [Bool.eq_iff_iff]
  cases a <;> cases b <;> simp [leF] <;> omega
theorem eqF_eq (a b : Int) : eqF a b = (a == b) := by
  rw [Bool.eq_iff_iff]
  cases a <;> cases b <;> simp [eqF] <;> omega
theorem eqF_true {a b : Int} (h : eqF a b = true) : a = b := by rw [eqF_eq] at h; exact of_decide_eq_true h
theorem eqF_self (a : Int) : eqF a a = true := by rw [eqF_eq]; simp

/-- Below this bound bits are as those of natural numbers. -/
def lim : IntKind → Nat
  | .i8 => 128 | .i16 => 32768 | .i32 => 2147483648 | .i64 => 9223372036854775808
  | .u8 => 256 | .u16 => 65536 | .u32 => 4294967296 | .u64 => 18446744073709551616

theorem lim_le (k : IntKind) : lim k ≤ 2 ^ k.bits := by cases k <;> decide
theorem wrap_lim (k : IntKind) (n : Nat) (h : n < lim k) : k.wrap (n : Int) = n := by
  rw [← wrapF_eq]
  cases k <;> simp only [lim] at h
  · rw [wrapF_eq]; simp only [IntKind.wrap, IntKind.bits, IntKind.signed]; simp; split <;> omega
  · rw [wrapF_eq]; simp only [IntKind.wrap, IntKind.bits, IntKind.signed]; simp; split <;> omega
  · rw [wrapF_eq, IntKind.wrap_i32]; omega
  · rw [wrapF_eq, IntKind.wrap_i64]; omega
  · rw [wrapF_eq, IntKind.wrap_u8]; omega
  · rw [wrapF_eq]; simp [IntKind.wrap, IntKind.bits, IntKind.signed]; omega
  · rw [wrapF_eq, IntKind.wrap_u32]; omega
  · rw [wrapF_eq]; simp [IntKind.wrap, IntKind.bits, IntKind.signed]; omega

def slowBits (op : BinOp) (k : IntKind) (x y : Int) : Option Int :=
  let a := BitVec.ofInt k.bits x
  let b := BitVec.ofInt k.bits y
  match op with
  | .and => some (k.wrap (a &&& b).toNat)
  | .or => some (k.wrap (a ||| b).toNat)
  | .xor => some (k.wrap (a ^^^ b).toNat)
  | .andNot => some (k.wrap (a &&& ~~~b).toNat)
  | _ => none

def fastBits (op : BinOp) (a b : Nat) : Option Int :=
  match op with
  | .and => some (.ofNat (Nat.land a b))
  | .or => some (.ofNat (Nat.lor a b))
  | .xor => some (.ofNat (Nat.xor a b))
  | .andNot => some (.ofNat (Nat.xor a (Nat.land a b)))
  | _ => none

def bitsF (op : BinOp) (k : IntKind) (x y : Int) : Option Int :=
  match x, y with
  | .ofNat a, .ofNat b =>
    match Nat.ble (Nat.succ a) (lim k), Nat.ble (Nat.succ b) (lim k) with
    | true, true => fastBits op a b
    | _, _ => slowBits op k x y
  | _, _ => slowBits op k x y

theorem xor_land (a b : Nat) : a ^^^ (a &&& b) = a &&& (a ^^^ b) := by
  apply Nat.eq_of_testBit_eq; intro i
  simp only [Nat.testBit_xor, Nat.testBit_and]
  cases a.testBit i <;> cases b.testBit i <;> rfl

theorem and_not_toNat {n : Nat} (a b : BitVec n) : (a &&& ~~~b).toNat = a.toNat ^^^ (a.toNat &&& b.toNat) := by
  apply Nat.eq_of_testBit_eq; intro i
  simp only [Nat.testBit_xor, Nat.testBit_and, BitVec.toNat_and, BitVec.testBit_toNat, BitVec.getLsbD_not]
  by_cases hi : i < n
  · simp only [hi, decide_true, Bool.true_and]; cases a.getLsbD i <;> cases b.getLsbD i <;> rfl
  · simp [BitVec.getLsbD_of_ge a i (by omega)]

theorem lim_pow : ∀ k, ∃ m, lim k = 2 ^ m := fun k => by
  cases k
  · exact ⟨7, rfl⟩
  · exact ⟨15, rfl⟩
  · exact ⟨31, rfl⟩
  · exact ⟨63, rfl⟩
  · exact ⟨8, rfl⟩
  · exact ⟨16, rfl⟩
  · exact ⟨32, rfl⟩
  · exact ⟨64, rfl⟩

theorem fast_slow (op : BinOp) (k : IntKind) (a b : Nat) (ha : a < lim k) (hb : b < lim k) : fastBits op a b = slowBits op k a b := by
  have hl := lim_le k
  have ta : (BitVec.ofInt k.bits (a : Int)).toNat = a := by
    rw [BitVec.toNat_ofInt]; have e : (2 ^ k.bits : Int) = ((2 ^ k.bits : Nat) : Int) := by simp
    rw [Int.emod_eq_of_lt (by omega) (by omega)]; simp
  have tb : (BitVec.ofInt k.bits (b : Int)).toNat = b := by
    rw [BitVec.toNat_ofInt]; have e : (2 ^ k.bits : Int) = ((2 ^ k.bits : Nat) : Int) := by simp
    rw [Int.emod_eq_of_lt (by omega) (by omega)]; simp
  obtain ⟨m, hm⟩ := lim_pow k
  unfold fastBits slowBits
  cases op <;> dsimp only <;> try rfl
  · rw [BitVec.toNat_and, ta, tb]
    have : a &&& b < lim k := Nat.lt_of_le_of_lt Nat.and_le_left ha
    rw [wrap_lim _ _ this]; rfl
  · rw [BitVec.toNat_or, ta, tb]
    have : a ||| b < lim k := by rw [hm] at ha hb ⊢; exact Nat.or_lt_two_pow ha hb
    rw [wrap_lim _ _ this]; rfl
  · rw [BitVec.toNat_xor, ta, tb]
    have : a ^^^ b < lim k := by rw [hm] at ha hb ⊢; exact Nat.xor_lt_two_pow ha hb
    rw [wrap_lim _ _ this]; rfl
  · rw [and_not_toNat, ta, tb]
    have h2 : a &&& b < lim k := Nat.lt_of_le_of_lt Nat.and_le_left ha
    have : a ^^^ (a &&& b) < lim k := by rw [hm] at ha h2 ⊢; exact Nat.xor_lt_two_pow ha h2
    rw [wrap_lim _ _ this]; rfl

theorem bitsF_eq (op : BinOp) (k : IntKind) (x y : Int) : bitsF op k x y = slowBits op k x y := by
  unfold bitsF
  split
  · rename_i a b
    split
    · rename_i h1 h2
      exact fast_slow op k a b (Nat.le_of_ble_eq_true h1) (Nat.le_of_ble_eq_true h2)
    · rfl
  · rfl

theorem bits_run {op : BinOp} {k : IntKind} {x y r : Int} (h : bitsF op k x y = some r) (P : Program) (w : World) : (Op.intBits op k x y).run P w = .ok (.int k r) w := by
  rw [bitsF_eq] at h
  unfold slowBits at h
  cases op <;> simp at h <;> subst h <;> simp [Op.intBits]

def minF (a b : Nat) : Nat := match Nat.ble a b with | true => a | false => b
theorem minF_eq (a b : Nat) : minF a b = min a b := by
  unfold minF; split
  · rename_i h; have := Nat.le_of_ble_eq_true h; omega
  · rename_i h; have : ¬ a ≤ b := fun h' => by rw [Nat.ble_eq_true_of_le h'] at h; cases h
    omega

def shiftF (op : BinOp) (k : IntKind) (x y : Int) : Option Int :=
  match y with
  | .negSucc _ => none
  | .ofNat m =>
    match op, x with
    | .shl, .ofNat a => some (wrapF k (.ofNat (Nat.shiftLeft a (minF m k.bits))))
    | .shl, x => some (k.wrap (x * 2 ^ (minF m k.bits)))
    | .shr, .ofNat a => some (.ofNat (Nat.shiftRight a (minF m k.bits)))
    | .shr, x => some (x.fdiv (2 ^ (minF m k.bits)))
    | _, _ => none

theorem shift_run {op : BinOp} {k yk : IntKind} {x y r : Int} (h : shiftF op k x y = some r) (P : Program) (w : World) : (Op.shift op k x yk y).run P w = .ok (.int k r) w := by
  unfold shiftF at h
  split at h
  · cases h
  · rename_i m
    have hy : ¬ (Int.ofNat m < 0) := by simp
    have hn : min (Int.ofNat m).toNat k.bits = minF m k.bits := by rw [minF_eq]; rfl
    unfold Op.shift
    rw [if_neg hy]
    dsimp only
    rw [hn]
    generalize minF m k.bits = n at *
    cases op <;> try (cases h; done)
    · cases x with
      | ofNat a =>
        simp only [Option.some.injEq] at h
        subst h
        have e : (Int.ofNat a) * 2 ^ n = Int.ofNat (Nat.shiftLeft a n) := by
          have : Nat.shiftLeft a n = a * 2 ^ n := Nat.shiftLeft_eq a n
          rw [this]; simp
        rw [e, wrapF_eq]; rfl
      | negSucc a =>
        simp only [Option.some.injEq] at h
        subst h; rfl
    · cases x with
      | ofNat a =>
        simp only [Option.some.injEq] at h
        subst h
        have e : (Int.ofNat a).fdiv (2 ^ n) = Int.ofNat (Nat.shiftRight a n) := by
          have h1 : Nat.shiftRight a n = a / 2 ^ n := Nat.shiftRight_eq_div_pow a n
          rw [h1, Int.fdiv_eq_ediv_of_nonneg _ (by exact Int.pow_nonneg (by omega))]
          simp
        rw [e]; rfl
      | negSucc a =>
        simp only [Option.some.injEq] at h
        subst h; rfl

def quoF (k : IntKind) (x y : Int) : Option Int :=
  match x, y with
  | .ofNat a, .ofNat b => match Nat.beq b 0 with
    | true => none
    | false => some (wrapF k (.ofNat (Nat.div a b)))
  | x, y => match eqF y 0 with
    | true => none
    | false => some (k.wrap (x.tdiv y))

def remF (x y : Int) : Option Int :=
  match x, y with
  | .ofNat a, .ofNat b => match Nat.beq b 0 with
    | true => none
    | false => some (.ofNat (Nat.mod a b))
  | x, y => match eqF y 0 with
    | true => none
    | false => some (x.tmod y)

theorem quo_run {k : IntKind} {x y r : Int} (h : quoF k x y = some r) (P : Program) (w : World) : (Op.intDiv .quo k x y).run P w = .ok (.int k r) w := by
  unfold quoF at h
  split at h
  · rename_i a b
    split at h <;> try cases h
    rename_i hb
    have hb' : b ≠ 0 := Nat.ne_of_beq_eq_false hb
    have hb2 : ¬ (Int.ofNat b = 0) := by simp; exact hb'
    unfold Op.intDiv
    rw [if_neg hb2]
    rw [wrapF_eq]; rfl
  · split at h <;> try cases h
    rename_i hy
    have hy2 : ¬ (y = 0) := fun e => by subst e; simp [eqF_self] at hy
    unfold Op.intDiv
    rw [if_neg hy2]
    rfl

theorem rem_run {k : IntKind} {x y r : Int} (h : remF x y = some r) (P : Program) (w : World) : (Op.intDiv .rem k x y).run P w = .ok (.int k r) w := by
  unfold remF at h
  split at h
  · rename_i a b
    split at h <;> try cases h
    rename_i hb
    have hb' : b ≠ 0 := Nat.ne_of_beq_eq_false hb
    have hb2 : ¬ (Int.ofNat b = 0) := by simp; exact hb'
    unfold Op.intDiv
    rw [if_neg hb2]
    rfl
  · split at h <;> try cases h
    rename_i hy
    have hy2 : ¬ (y = 0) := fun e => by subst e; simp [eqF_self] at hy
    unfold Op.intDiv
    rw [if_neg hy2]
    rfl

/-- Operators on two integers of one kind (and shifts). -/
def intOp (op : BinOp) (k k' : IntKind) (x y : Int) : Option AV :=
  match op with
  | .shl => (shiftF .shl k x y).map (.int k)
  | .shr => (shiftF .shr k x y).map (.int k)
  | op =>
    match decide (k = k') with
    | false => none
    | true =>
      match op with
      | .add => some (.int k (wrapF k (Int.add x y)))
      | .sub => some (.int k (wrapF k (Int.sub x y)))
      | .mul => some (.int k (wrapF k (Int.mul x y)))
      | .quo => (quoF k x y).map (.int k)
      | .rem => (remF x y).map (.int k)
      | .eql => some (.bool (eqF x y))
      | .neq => some (.bool (!(eqF x y)))
      | .lss => some (.bool (ltF x y))
      | .leq => some (.bool (leF x y))
      | .gtr => some (.bool (ltF y x))
      | .geq => some (.bool (leF y x))
      | op => (bitsF op k x y).map (.int k)

theorem intOp_run {op : BinOp} {k k' : IntKind} {x y : Int} {a : AV} (h : intOp op k k' x y = some a) (P : Program) (w : World) (t : TypeId) (μ : Places) :
    ∃ v, (binOp op t (.int k x) (.int k' y)).run P w = .ok v w ∧ VRel μ a v := by
  unfold intOp at h
  split at h
  · cases hs : shiftF .shl k x y with
    | none => rw [hs] at h; cases h
    | some r => rw [hs] at h; cases h; exact ⟨_, shift_run (yk := k') hs P w, .int _ _⟩
  · cases hs : shiftF .shr k x y with
    | none => rw [hs] at h; cases h
    | some r => rw [hs] at h; cases h; exact ⟨_, shift_run (yk := k') hs P w, .int _ _⟩
  · rename_i h1 h2
    split at h
    · cases h
    · rename_i hk
      have hk' : k = k' := of_decide_eq_true hk
      subst hk'
      have hb : ∀ {op : BinOp}, op ≠ .shl → op ≠ .shr → binOp op t (.int k x) (.int k y) = match op with
          | .add | .sub | .mul => Op.intArith op k x y
          | .quo | .rem => Op.intDiv op k x y
          | .and | .or | .xor | .andNot => Op.intBits op k x y
          | _ => Op.intCmp op x y := by
        intro op h1 h2
        cases op <;> first | (exact absurd rfl h1) | (exact absurd rfl h2) | (simp [binOp])
      rw [hb h1 h2]
      cases op <;> dsimp only at h ⊢
      · cases h; rw [wrapF_eq]; exact ⟨_, rfl, .int _ _⟩
      · cases h; rw [wrapF_eq]; exact ⟨_, rfl, .int _ _⟩
      · cases h; rw [wrapF_eq]; exact ⟨_, rfl, .int _ _⟩
      · cases hs : quoF k x y with
        | none => rw [hs] at h; cases h
        | some r => rw [hs] at h; cases h; exact ⟨_, quo_run hs P w, .int _ _⟩
      · cases hs : remF x y with
        | none => rw [hs] at h; cases h
        | some r => rw [hs] at h; cases h; exact ⟨_, rem_run hs P w, .int _ _⟩
      · cases hs : bitsF .and k x y with
        | none => rw [hs] at h; cases h
        | some r => rw [hs] at h; cases h; exact ⟨_, bits_run hs P w, .int _ _⟩
      · cases hs : bitsF .or k x y with
        | none => rw [hs] at h; cases h
        | some r => rw [hs] at h; cases h; exact ⟨_, bits_run hs P w, .int _ _⟩
      · cases hs : bitsF .xor k x y with
        | none => rw [hs] at h; cases h
        | some r => rw [hs] at h; cases h; exact ⟨_, bits_run hs P w, .int _ _⟩
      · exact absurd rfl h1
      · exact absurd rfl h2
      · cases hs : bitsF .andNot k x y with
        | none => rw [hs] at h; cases h
        | some r => rw [hs] at h; cases h; exact ⟨_, bits_run hs P w, .int _ _⟩
      · cases h; rw [eqF_eq]; exact ⟨_, rfl, .bool _⟩
      · cases h; rw [eqF_eq]; exact ⟨_, rfl, .bool _⟩
      · cases h; rw [ltF_eq]; exact ⟨_, rfl, .bool _⟩
      · cases h; rw [leF_eq]; exact ⟨_, rfl, .bool _⟩
      · cases h; rw [ltF_eq]; exact ⟨_, rfl, .bool _⟩
      · cases h; rw [leF_eq]; exact ⟨_, rfl, .bool _⟩

end
end Go.Proofs.Ytllldiokcnheiaa.Ab

namespace Go.Proofs.Ytllldiokcnheiaa.Ab
noncomputable section

/-! ### Constants -/

def ofFlat : Value → Option AV
  | .bool b => some (.bool b)
  | .int k n => some (.int k n)
  | .string s => some (.str s)
  | .pointer none => some .nilp
  | .slice none 0 0 => some .nils
  | .map none => some .nilm
  | .nilFunc => some .nilf
  | .nilIface => some .nili
  | _ => none

def ofFlats : List Value → Option (List AV)
  | [] => some []
  | v :: r => match ofFlat v with
    | some a => match ofFlats r with
      | some l => some (a :: l)
      | none => none
    | none => none

def ofV : Value → Option AV
  | .agg cs => match ofFlats cs.toList with
    | some l => some (.agg l)
    | none => none
  | v => ofFlat v

theorem ofFlat_rel (μ : Places) {v : Value} {a : AV} (h : ofFlat v = some a) : VRel μ a v := by
  unfold ofFlat at h
  split at h <;> cases h <;> constructor

theorem ofFlats_rel (μ : Places) : ∀ {vs : List Value} {l : List AV}, ofFlats vs = some l → VRels μ l vs
  | [], l, h => by cases h; exact .nil
  | v :: r, l, h => by
    unfold ofFlats at h
    split at h <;> try cases h
    rename_i a ha
    split at h <;> try cases h
    rename_i l' hl
    exact .cons (ofFlat_rel μ ha) (ofFlats_rel μ hl)

theorem ofV_rel (μ : Places) {v : Value} {a : AV} (h : ofV v = some a) : VRel μ a v := by
  unfold ofV at h
  split at h
  · rename_i cs
    split at h <;> try cases h
    rename_i l hl
    have := ofFlats_rel μ hl
    have e : cs = cs.toList.toArray := by simp
    rw [e]
    exact .agg this
  · exact ofFlat_rel μ h

def cellsA : AV → List AV
  | .agg cs => cs
  | a => [a]

theorem VRel.cells {μ : Places} {a : AV} {v : Value} (h : VRel μ a v) : VRels μ (cellsA a) v.cells.toList := by
  cases h <;> first | (exact .cons (by constructor <;> assumption) .nil) | skip
  rename_i hs
  simpa [cellsA, Value.cells] using hs

/-! ### Types -/

def szA (P : Program) (t : TypeId) : Option Nat :=
  match P.info? t with
  | some i => some i.size
  | none => none

def byA (P : Program) (t : TypeId) : Option Nat :=
  match P.info? t with
  | some i => some i.bytes
  | none => none

/-- Has a value of the type parts (and how many cells), or is it one cell? -/
def shapeA (P : Program) (t : TypeId) : Option (Option Nat) :=
  match P.underlying t with
  | some (.struct _) | some (.array _ _) => match szA P t with
    | some n => some (some n)
    | none => none
  | some _ => some none
  | none => none

def zeroA (P : Program) (t : TypeId) : Option AV :=
  match P.info? t with
  | some i => match i.zero with
    | some z => ofV z
    | none => none
  | none => none

section
variable {P : Program} {w : World} {μ : Places} {h h' : AH}

theorem run_szA {t : TypeId} {n : Nat} (hs : szA P t = some n) (w : World) : (sizeOf t).run P w = .ok n w := by
  unfold szA at hs
  split at hs <;> cases hs
  rename_i i hi
  simp [sizeOf, typeInfo, hi]

theorem run_zeroA {t : TypeId} {a : AV} (hz : zeroA P t = some a) (w : World) (μ : Places) : ∃ v, (zeroValue t).run P w = .ok v w ∧ VRel μ a v := by
  unfold zeroA at hz
  split at hz <;> try cases hz
  rename_i i hi
  split at hz <;> try cases hz
  rename_i z hzz
  exact ⟨z, by simp [zeroValue, typeInfo, hi, hzz], ofV_rel μ hz⟩

theorem run_shapeA {t : TypeId} {s : Option Nat} (hs : shapeA P t = some s) (w : World) :
    match s with
    | some n => (isAgg t).run P w = .ok true w ∧ (sizeOf t).run P w = .ok n w
    | none => (isAgg t).run P w = .ok false w := by
  unfold shapeA at hs
  split at hs
  · rename_i d hd
    split at hs <;> cases hs
    rename_i n hn
    exact ⟨by simp [isAgg, run_underlying hd], run_szA hn w⟩
  · rename_i d hd
    split at hs <;> cases hs
    rename_i n hn
    exact ⟨by simp [isAgg, run_underlying hd], run_szA hn w⟩
  · rename_i d hn1 hn2 hd
    cases hs
    cases d <;> first
      | (simp [isAgg, run_underlying hd]; done)
      | (exact absurd rfl (hn1 _))
      | (exact absurd rfl (hn2 _ _))
  · cases hs

/-! ### Load and store -/

def loadA (P : Program) (t : TypeId) (a : AV) (h : AH) : Option AV :=
  match a with
  | .ptr b off => match shapeA P t with
    | some none => h.load1 b off
    | some (some n) => match h.loadL b off n with
      | some l => some (.agg l)
      | none => none
    | none => none
  | _ => none

theorem loadA_run {t : TypeId} {a x : AV} {va : Value} (hr : RelH μ h w) (ha : VRel μ a va) (hl : loadA P t a h = some x) :
    ∃ v, (Instr.loadAt t va).run P w = .ok v w ∧ VRel μ x v := by
  unfold loadA at hl
  split at hl <;> try cases hl
  rename_i b off
  cases ha with
  | ptr hb =>
    rename_i L
    split at hl <;> try cases hl
    · rename_i hs
      have hsh := run_shapeA hs w
      dsimp only at hsh
      obtain ⟨M, v, hM, hv, hc⟩ := hr.load1 hl
      rw [hb] at hM; cases hM
      exact ⟨v, by simp [Instr.loadAt, Instr.sureAddr, loadVar, hsh, hc], hv⟩
    · rename_i n hs
      have hsh := run_shapeA hs w
      dsimp only at hsh
      split at hl <;> try cases hl
      rename_i l hll
      obtain ⟨M, vs, hM, hv, hc, hlen⟩ := hr.loadL P hll
      rw [hb] at hM; cases hM
      exact ⟨.agg vs.toArray, by simp [Instr.loadAt, Instr.sureAddr, loadVar, hsh.1, hsh.2, hc w rfl], .agg hv⟩

def storeA (P : Program) (t : TypeId) (a x : AV) (h : AH) : Option AH :=
  match a with
  | .ptr b off => match szA P t with
    | some n => match Nat.beq (cellsA x).length n with
      | true => h.storeL b off (cellsA x)
      | false => none
    | none => none
  | _ => none

theorem storeA_run {t : TypeId} {a x : AV} {va vx : Value} (hr : RelH μ h w) (ha : VRel μ a va) (hx : VRel μ x vx) (hs : storeA P t a x h = some h') :
    ∃ w', (Instr.storeAt t va vx).run P w = .ok () w' ∧ RelH μ h' w' ∧ Adv μ h w μ h' w' := by
  unfold storeA at hs
  split at hs <;> try cases hs
  rename_i b off
  cases ha with
  | ptr hb =>
    rename_i L
    split at hs <;> try cases hs
    rename_i n hn
    split at hs <;> try cases hs
    rename_i hlen
    have hlen' : (cellsA x).length = n := Nat.eq_of_beq_eq_true hlen
    have hc := hx.cells
    obtain ⟨M, w', hM, hrun, hr', had⟩ := hr.storeL P hs hc
    rw [hb] at hM; cases hM
    have hsz : vx.cells.size = n := by
      have := hc.length; simp at this; omega
    refine ⟨w', ?_, hr', had⟩
    simp [Instr.storeAt, Instr.sureAddr, storeVar, run_szA hn w, hsz, hrun]

/-! ### New variables -/

/-- What a step on values leaves: a value and a memory. -/
def Did (P : Program) (μ : Places) (h : AH) (w : World) (s : Sem Value) (a : AV) (h' : AH) : Prop :=
  ∃ ν v w', s.run P w = .ok v w' ∧ VRel ν a v ∧ RelH ν h' w' ∧ Adv μ h w ν h' w'

theorem Did.same {s : Sem Value} {a : AV} {v : Value} (hr : RelH μ h w) (hs : s.run P w = .ok v w) (ha : VRel μ a v) : Did P μ h w s a h :=
  ⟨μ, v, w, hs, ha, hr, Adv.refl _ _ _⟩

/-- The names that a step takes are new. -/
def Fresh (μ : Places) (h h' : AH) : Prop := ∀ b, h.next ≤ b → b < h'.next → μ b = none

theorem did_newVar {s : Sem Value} {t : TypeId} {cs : List AV} {c : Array Value} (hr : RelH μ h w) (hf : Fresh μ h (h.new cs)) (hv : VRels μ cs c.toList)
    (hs : s.run P w = .ok (.pointer (some ⟨w.heap.size, 0, none⟩)) (w.alloc (.cells c t))) : Did P μ h w s (.ptr h.next 0) (h.new cs) := by
  have hn : μ h.next = none := hf _ (Nat.le_refl _) (Nat.lt_succ_self _)
  obtain ⟨h1, h2⟩ := hr.new hn hv c t (by simp) (by simp)
  refine ⟨_, _, _, hs, ?_, h1, h2⟩
  have := VRel.ptr (μ := upd μ h.next ⟨w.heap.size, 0, c.size⟩) (off := 0) (upd_same μ h.next ⟨w.heap.size, 0, c.size⟩)
  simpa using this

def allocA (P : Program) (t : TypeId) (h : AH) : Option (AV × AH) :=
  match zeroA P t with
  | some z => some (.ptr h.next 0, h.new (cellsA z))
  | none => none

theorem allocA_run {t : TypeId} {a : AV} (hr : RelH μ h w) (hl : allocA P t h = some (a, h')) (hf : Fresh μ h h') :
    Did P μ h w (Instr.alloc t true (.tuple #[])) a h' := by
  unfold allocA at hl
  split at hl <;> try cases hl
  rename_i z hz
  obtain ⟨v, hv, hrel⟩ := run_zeroA hz w μ
  exact did_newVar (t := t) hr hf hrel.cells (by simp [Instr.alloc, hv, newVar, newRow])

def boxA (x : AV) (h : AH) : AV × AH := (.ptr h.next 0, h.new (cellsA x))

theorem boxA_run {t : TypeId} {a x : AV} {vx : Value} (hr : RelH μ h w) (hx : VRel μ x vx) (hl : boxA x h = (a, h')) (hf : Fresh μ h h') :
    Did P μ h w (Instr.box t vx) a h' := by
  cases hl
  exact did_newVar (t := t) hr hf hx.cells (by simp [Instr.box, newVar, newRow])

/-! ### Composite values -/

def fillA (place : Nat → Option (Nat × Nat)) (cells : List AV) : List (Nat × AV) → Option (List AV)
  | [] => some cells
  | (i, x) :: r =>
    match place i with
    | none => none
    | some (off, n) =>
      match Nat.beq (cellsA x).length n, Nat.ble (off + n) cells.length with
      | true, true => fillA place (setR cells off (cellsA x)) r
      | _, _ => none

theorem foldl_put (off : Nat) : ∀ (l : List Value) (k : Nat) (A : Array Value), off + k + l.length ≤ A.size →
    ((l.zipIdx k).foldl (fun cs (x : Value × Nat) => cs.setIfInBounds (off + x.2) x.1) A).toList = A.toList.take (off + k) ++ l ++ A.toList.drop (off + k + l.length)
  | [], k, A, _ => by simp
  | v :: r, k, A, hl => by
    simp only [List.zipIdx_cons, List.foldl_cons]
    rw [foldl_put off r (k + 1) _ (by simp at hl ⊢; omega)]
    have e := list_seg_step A.toList (off + k) v r (by simp at hl ⊢; omega)
    simpa [Array.toList_setIfInBounds, Nat.add_assoc] using e

theorem fillA_run (place : Nat → Option (Nat × Nat)) : ∀ {parts : List (Nat × AV)} {ps : List (Nat × Value)} {cells l : List AV} {cs : Array Value},
    fillA place cells parts = some l → VRels μ cells cs.toList → parts.length = ps.length →
    (∀ (i : Nat) (x : Nat × AV) (y : Nat × Value), parts[i]? = some x → ps[i]? = some y → x.1 = y.1 ∧ VRel μ x.2 y.2) →
    ∃ ds : Array Value, Instr.fill place cs ps = some ds ∧ VRels μ l ds.toList
  | [], ps, cells, l, cs, hf, hc, hl, _ => by
    have : ps = [] := List.eq_nil_of_length_eq_zero (by simpa using hl.symm)
    subst this
    cases hf
    exact ⟨cs, rfl, hc⟩
  | (i, x) :: r, [], _, _, _, _, _, hl, _ => by simp at hl
  | (i, x) :: r, (j, y) :: rs, cells, l, cs, hf, hc, hl, hp => by
    obtain ⟨he, hxy⟩ := hp 0 _ _ rfl rfl
    dsimp only at he hxy
    subst he
    unfold fillA at hf
    split at hf <;> try cases hf
    rename_i off n hpl
    split at hf <;> try cases hf
    rename_i h1 h2
    have h1' : (cellsA x).length = n := Nat.eq_of_beq_eq_true h1
    have h2' : off + n ≤ cells.length := Nat.le_of_ble_eq_true h2
    have hcells := hxy.cells
    have hlen := hcells.length
    have hcl := hc.length
    simp at hlen hcl
    have e := foldl_put off y.cells.toList 0 cs (by simp; omega)
    simp only [Nat.add_zero] at e
    have hnew : VRels μ (setR cells off (cellsA x)) ((y.cells.toList.zipIdx 0).foldl (fun cs (x : Value × Nat) => cs.setIfInBounds (off + x.2) x.1) cs).toList := by
      rw [e]; exact hc.setR off hcells
    obtain ⟨ds, hd, hrel⟩ := fillA_run place hf hnew (by simpa using hl) (fun i x y h1 h2 => hp (i + 1) x y (by simpa using h1) (by simpa using h2))
    refine ⟨ds, ?_, hrel⟩
    unfold Instr.fill
    rw [hpl]
    dsimp only
    rw [if_neg (by simp; omega)]
    rw [← hd]
    congr 1
    rw [← Array.foldl_toList]
    congr 1
    simp

def placesA (P : Program) : List Field → Option (List (Nat × Nat))
  | [] => some []
  | f :: r => match szA P f.type with
    | some n => match placesA P r with
      | some l => some ((f.offset, n) :: l)
      | none => none
    | none => none

theorem placesA_eq : ∀ {fs : List Field} {l : List (Nat × Nat)}, placesA P fs = some l → fs.mapM (fun f => (P.info? f.type).map fun i => (f.offset, i.size)) = some l
  | [], l, h => by cases h; rfl
  | f :: r, l, h => by
    unfold placesA at h
    split at h <;> try cases h
    rename_i n hn
    split at h <;> try cases h
    rename_i l' hl
    have ih := placesA_eq hl
    unfold szA at hn
    split at hn <;> cases hn
    rename_i i hi
    simp [List.mapM_cons, hi, ih]

def buildA (P : Program) (t : TypeId) (parts : List (Nat × AV)) : Option AV :=
  match zeroA P t with
  | none => none
  | some z =>
    match P.underlying t with
    | some (.struct fields) =>
      match placesA P fields.toList with
      | some places => match fillA (fun i => places[i]?) (cellsA z) parts with
        | some l => some (.agg l)
        | none => none
      | none => none
    | some (.array _ e) =>
      match szA P e with
      | some n => match fillA (fun i => some (i * n, n)) (cellsA z) parts with
        | some l => some (.agg l)
        | none => none
      | none => none
    | _ => none

theorem buildA_run {t : TypeId} {parts : List (Nat × AV)} {ps : Array (Nat × Value)} {a : AV} (hb : buildA P t parts = some a) (w : World) (hl : parts.length = ps.toList.length)
    (hp : ∀ (i : Nat) (x : Nat × AV) (y : Nat × Value), parts[i]? = some x → ps.toList[i]? = some y → x.1 = y.1 ∧ VRel μ x.2 y.2) :
    ∃ v, (Instr.build t ps).run P w = .ok v w ∧ VRel μ a v := by
  unfold buildA at hb
  split at hb <;> try cases hb
  rename_i z hz
  unfold zeroA at hz
  split at hz <;> try cases hz
  rename_i it hit
  split at hz <;> try cases hz
  rename_i zv hzv
  have hzrel := (ofV_rel μ hz).cells
  split at hb <;> try cases hb
  · rename_i fields hu
    split at hb <;> try cases hb
    rename_i places hpl
    split at hb <;> try cases hb
    rename_i l hfl
    obtain ⟨ds, hd, hrel⟩ := fillA_run _ hfl hzrel hl hp
    refine ⟨_, run_build w t ps ds ?_, by simpa using VRel.agg hrel⟩
    unfold Program.built
    simp only [hit, hu, hzv, placesA_eq hpl]
    rw [← hd]
    congr 1
    funext i
    simp
  · rename_i len e hu
    split at hb <;> try cases hb
    rename_i n hn
    split at hb <;> try cases hb
    rename_i l hfl
    obtain ⟨ds, hd, hrel⟩ := fillA_run _ hfl hzrel hl hp
    refine ⟨_, run_build w t ps ds ?_, by simpa using VRel.agg hrel⟩
    unfold Program.built
    unfold szA at hn
    split at hn <;> cases hn
    rename_i ie hie
    simp only [hit, hu, hzv, hie, hd]

/-! ### Slices that are made -/

/-- So many zero cells. -/
def zerosA (z : List AV) (n : Nat) : List AV := (List.range n).map fun i => z.getD (Nat.mod i z.length) .nilp

theorem zerosA_rel {z : List AV} {zs : Array Value} (hz : VRels μ z zs.toList) (n : Nat) (hpos : 0 < z.length) :
    VRels μ (zerosA z n) ((Array.range n).map (zs[· % zs.size]!)).toList := by
  have hl := hz.length
  simp at hl
  have e : ((Array.range n).map (zs[· % zs.size]!)).toList = (List.range n).map (zs[· % zs.size]!) := by simp
  rw [e]
  refine VRels.map _ fun i _ => ?_
  have hlt : i % z.length < z.length := Nat.mod_lt _ hpos
  have hlt' : i % zs.size < zs.size := Nat.mod_lt _ (by omega)
  obtain ⟨v, hv, hrel⟩ := hz.get (i % z.length) z[i % z.length] (List.getElem?_eq_getElem hlt)
  have e1 : z.getD (Nat.mod i z.length) .nilp = z[i % z.length] := by
    have : Nat.mod i z.length = i % z.length := rfl
    rw [this, List.getD_eq_getElem?_getD, List.getElem?_eq_getElem hlt]; rfl
  rw [e1]
  have e2 : zs[i % zs.size]! = v := by
    rw [hl] at hv
    simp only [Array.getElem?_toList] at hv
    rw [getElem!_def, hv]
  rw [e2]; exact hrel

theorem zerosA_length (z : List AV) (n : Nat) : (zerosA z n).length = n := by simp [zerosA]

def elemA (P : Program) (t : TypeId) : Option TypeId :=
  match P.underlying t with
  | some (.slice e) => some e
  | _ => none

theorem elemA_eq {t e : TypeId} (he : elemA P t = some e) : P.underlying t = some (.slice e) := by
  unfold elemA at he
  split at he <;> cases he
  assumption

/-- A new slice. -/
theorem did_newSlice {s : Sem Value} {t : TypeId} {cs : List AV} {c : Array Value} {len cap sz : Nat} {cap' : Nat} {ex : Bool} (hr : RelH μ h w) (hf : Fresh μ h (h.new cs))
    {vs : List Value} (hv : VRels μ cs vs) (hlen : vs.length ≤ c.size) (hc : ∀ (i : Nat) (v : Value), vs[i]? = some v → c[i]? = some v)
    (h1 : len ≤ cap') (h2 : cap ≤ cap') (h3 : ex = true → cap' = cap) (h4 : cap' * sz ≤ c.size) (w₀ : World) (hw : w₀ = w ∨ w₀ = w.drew)
    (hs : s.run P w = .ok (.slice (some ⟨w.heap.size, 0, none⟩) len cap') (w₀.alloc (.cells c t))) : Did P μ h w s (.sl h.next 0 len cap sz ex) (h.new cs) := by
  have hn : μ h.next = none := hf _ (Nat.le_refl _) (Nat.lt_succ_self _)
  have hr0 : RelH μ h w₀ := by rcases hw with e | e <;> subst e; exact hr; exact hr.drew
  have ha0 : Adv μ h w μ h w₀ := by rcases hw with e | e <;> subst e; exact Adv.refl _ _ _; exact Adv.drew
  have hsz : w₀.heap.size = w.heap.size := by rcases hw with e | e <;> subst e <;> rfl
  obtain ⟨g1, g2⟩ := hr0.new hn hv c t hlen hc
  refine ⟨_, _, _, hs, ?_, g1, ha0.trans g2 hr⟩
  exact VRel.sl (upd_same μ h.next _) (fun _ => by simp [hsz]) h1 h2 h3 (fun _ _ => by simpa using h4)

def buildSliceA (P : Program) (t : TypeId) (len : Nat) (parts : List (Nat × AV)) (h : AH) : Option (AV × AH) :=
  match elemA P t with
  | none => none
  | some e =>
    match szA P e, zeroA P e with
    | some n, some z =>
      match Nat.beq (cellsA z).length n, Nat.ble (len * n) 16777216, Nat.beq n 0 with
      | true, true, false =>
        match fillA (fun i => some (i * n, n)) (zerosA (cellsA z) (len * n)) parts with
        | some l => some (.sl h.next 0 len len n true, h.new l)
        | none => none
      | _, _, _ => none
    | _, _ => none

theorem fill_size (place : Nat → Option (Nat × Nat)) : ∀ {parts : List (Nat × Value)} {cells ds : Array Value}, Instr.fill place cells parts = some ds → ds.size = cells.size
  | [], cells, ds, h => by cases h; rfl
  | (i, v) :: r, cells, ds, h => by
    unfold Instr.fill at h
    split at h <;> try cases h
    split at h <;> try cases h
    have := fill_size place h
    rw [this]
    have key : ∀ (l : List (Value × Nat)) (A : Array Value) (off : Nat), (l.foldl (fun cs (x : Value × Nat) => cs.setIfInBounds (off + x.2) x.1) A).size = A.size := by
      intro l
      induction l with
      | nil => intro A off; rfl
      | cons x r ih => intro A off; simp only [List.foldl_cons]; rw [ih]; simp
    rw [← Array.foldl_toList]
    exact key _ _ _

theorem buildSliceA_run {t : TypeId} {len : Nat} {parts : List (Nat × AV)} {ps : Array (Nat × Value)} {a : AV} (hr : RelH μ h w) (hb : buildSliceA P t len parts h = some (a, h')) (hf : Fresh μ h h')
    (hl : parts.length = ps.toList.length)
    (hp : ∀ (i : Nat) (x : Nat × AV) (y : Nat × Value), parts[i]? = some x → ps.toList[i]? = some y → x.1 = y.1 ∧ VRel μ x.2 y.2) :
    Did P μ h w (Instr.buildSlice t len ps) a h' := by
  unfold buildSliceA at hb
  split at hb <;> try cases hb
  rename_i e he
  split at hb <;> try cases hb
  rename_i n z hn hz
  split at hb <;> try cases hb
  rename_i h1 h2 h3
  split at hb <;> try cases hb
  rename_i l hfl
  have h1' : (cellsA z).length = n := Nat.eq_of_beq_eq_true h1
  have h2' : len * n ≤ 16777216 := Nat.le_of_ble_eq_true h2
  have h3' : n ≠ 0 := Nat.ne_of_beq_eq_false h3
  obtain ⟨zv, hzv, hzrel⟩ := run_zeroA hz w μ
  have hzc := hzrel.cells
  have hzl := hzc.length
  simp at hzl
  have hzeros := zerosA_rel hzc (len * n) (by omega)
  by_cases h0 : len * n = 0
  · have e1 : zerosA (cellsA z) (len * n) = [] := by rw [h0]; rfl
    rw [e1] at hfl
    obtain ⟨ds, hd, hrel⟩ := fillA_run (cs := #[]) _ hfl (by simpa using VRels.nil) hl hp
    have hds := fill_size _ hd
    have hlen := hrel.length
    simp at hlen hds
    refine did_newSlice (t := e) (c := ds) (vs := ds.toList) hr hf hrel (by simp) (by simp) (Nat.le_refl _) (Nat.le_refl _) (fun _ => rfl) (by simp [hds]; omega) w (.inl rfl) ?_
    have hra : Array.range 0 = #[] := rfl
    simp [Instr.buildSlice, run_underlying (elemA_eq he), run_szA hn, h0, hra, hd, newRow]
  · obtain ⟨ds, hd, hrel⟩ := fillA_run _ hfl hzeros hl hp
    have hds := fill_size _ hd
    simp at hds
    refine did_newSlice (t := e) (c := ds) (vs := ds.toList) hr hf hrel (by simp) (by simp) (Nat.le_refl _) (Nat.le_refl _) (fun _ => rfl) (by simp [hds]) w (.inl rfl) ?_
    have hsm : ¬ 16777216 < len * n := by omega
    simp [Instr.buildSlice, run_underlying (elemA_eq he), run_szA hn, h0, hsm, hzv, hd, newRow]

def natA : AV → Option Nat
  | .int .i64 (.ofNat n) => match Nat.ble n 1048576 with
    | true => some n
    | false => none
  | _ => none

theorem natA_rel {a : AV} {v : Value} {n : Nat} (hn : natA a = some n) (h : VRel μ a v) : v = .int .i64 (n : Int) ∧ n ≤ 1048576 := by
  unfold natA at hn
  split at hn <;> try cases hn
  split at hn <;> try cases hn
  rename_i m hle
  cases h
  exact ⟨rfl, Nat.le_of_ble_eq_true hle⟩

def makeSliceA (P : Program) (t : TypeId) (l c : AV) (h : AH) : Option (AV × AH) :=
  match elemA P t with
  | none => none
  | some e =>
    match szA P e, zeroA P e, byA P e, natA l, natA c with
    | some n, some z, some by_, some l, some c =>
      match Nat.beq (cellsA z).length n, Nat.ble by_ 65536, Nat.beq n 0, Nat.ble l c with
      | true, true, false, true => some (.sl h.next 0 l c n true, h.new (zerosA (cellsA z) (c * n)))
      | _, _, _, _ => none
    | _, _, _, _, _ => none

theorem makeSliceA_run {t : TypeId} {l c a : AV} {vl vc : Value} (hr : RelH μ h w) (hl : VRel μ l vl) (hc : VRel μ c vc) (hm : makeSliceA P t l c h = some (a, h')) (hf : Fresh μ h h') :
    Did P μ h w (Instr.makeSlice t vl vc) a h' := by
  unfold makeSliceA at hm
  split at hm <;> try cases hm
  rename_i e he
  split at hm <;> try cases hm
  rename_i n z by_ l' c' hn hz hby hln hcn
  split at hm <;> try cases hm
  rename_i h1 h2 h3 h4
  obtain ⟨rfl, hl1⟩ := natA_rel hln hl
  obtain ⟨rfl, hc1⟩ := natA_rel hcn hc
  have h1' : (cellsA z).length = n := Nat.eq_of_beq_eq_true h1
  have h2' : by_ ≤ 65536 := Nat.le_of_ble_eq_true h2
  have h3' : n ≠ 0 := Nat.ne_of_beq_eq_false h3
  have h4' : l' ≤ c' := Nat.le_of_ble_eq_true h4
  obtain ⟨zv, hzv, hzrel⟩ := run_zeroA hz w μ
  have hzc := hzrel.cells
  have hzl := hzc.length
  simp at hzl
  have hwc : IntKind.i64.wrap (c' : Int) = c' := by rw [IntKind.wrap_i64]; omega
  have hwl : IntKind.i64.wrap (l' : Int) = l' := by rw [IntKind.wrap_i64]; omega
  have hbytes : by_ * c' ≤ 65536 * 1048576 := Nat.mul_le_mul h2' hc1
  have hbytes' : (by_ : Int) * (c' : Int) ≤ 68719476736 := by rw [← Int.natCast_mul]; omega
  unfold byA at hby
  split at hby <;> cases hby
  rename_i ie hie
  have hsz : ie.size = n := by
    unfold szA at hn; rw [hie] at hn; cases hn; rfl
  have hr1 : ¬ ((c' : Int) < 0 ∨ 281474976710656 < (ie.bytes : Int) * (c' : Int)) := by omega
  have hr2 : ¬ ((l' : Int) < 0) := by omega
  have hr3 : ¬ ((c' : Int) < (l' : Int)) := by omega
  by_cases h0 : c' * n = 0
  · have hz0 : zerosA (cellsA z) (c' * n) = [] := by rw [h0]; rfl
    refine did_newSlice (t := e) (c := #[]) (vs := []) hr hf (by rw [hz0]; exact .nil) (by simp) (by simp) h4' (Nat.le_refl _) (fun _ => rfl) (by simp [h0]) w (.inl rfl) ?_
    have hn0 : c' = 0 := by rcases Nat.mul_eq_zero.1 h0 with e | e; exact e; exact absurd e h3'
    subst hn0
    have hl0 : l' = 0 := by omega
    subst hl0
    have hra : Array.range 0 = #[] := rfl
    simp [Instr.makeSlice, run_underlying (elemA_eq he), asInt, asIntOf, typeInfo, hie, sizeOf, newRow, IntKind.wrap_i64, hra]
  · have hzeros := zerosA_rel hzc (c' * n) (by omega)
    refine did_newSlice (t := e) (c := (Array.range (c' * n)).map (zv.cells[· % zv.cells.size]!)) (vs := _) hr hf hzeros (by simp) (fun i v hv => by rw [Array.getElem?_toList] at hv; exact hv) h4' (Nat.le_refl _) (fun _ => rfl) (by simp) w (.inl rfl) ?_
    simp [Instr.makeSlice, run_underlying (elemA_eq he), asInt, asIntOf, typeInfo, hie, sizeOf, hsz, hwc, hwl, hr1, hr2, hr3, h0, hzv, newRow]

end
end
end Go.Proofs.Ytllldiokcnheiaa.Ab

namespace Go.Proofs.Ytllldiokcnheiaa.Ab
noncomputable section
section
variable {P : Program} {w : World} {μ : Places} {h h' : AH}

/-- An index: a number that is not below 0. -/
def idxA : AV → Option Nat
  | .int _ (.ofNat n) => some n
  | _ => none

theorem idxA_rel {a : AV} {v : Value} {n : Nat} (hn : idxA a = some n) (h : VRel μ a v) : ∃ k, v = .int k (n : Int) := by
  unfold idxA at hn
  split at hn <;> cases hn
  cases h
  exact ⟨_, rfl⟩

/-! ### Addresses -/

def fieldAddrA (P : Program) (s : TypeId) (x : AV) (i : Nat) : Option AV :=
  match P.underlying s, x with
  | some (.struct fields), .ptr b off =>
    match fields.toList[i]? with
    | some f => match szA P f.type with
      | some n => match Nat.beq n 0 with
        | true => none
        | false => some (.ptr b (off + f.offset))
      | none => none
    | none => none
  | _, _ => none

theorem fieldAddrA_run {s : TypeId} {x a : AV} {vx : Value} {i : Nat} (w : World) (hx : VRel μ x vx) (hf : fieldAddrA P s x i = some a) :
    ∃ v, (Instr.fieldAt s vx i).run P w = .ok v w ∧ VRel μ a v := by
  unfold fieldAddrA at hf
  split at hf <;> try cases hf
  rename_i fields b off hu
  split at hf <;> try cases hf
  rename_i f hfi
  split at hf <;> try cases hf
  rename_i n hn
  split at hf <;> try cases hf
  rename_i hn0
  have hn0' : n ≠ 0 := Nat.ne_of_beq_eq_false hn0
  cases hx with
  | ptr hb =>
    rename_i L
    have hfi' : fields[i]? = some f := by simpa using hfi
    refine ⟨.pointer (some ⟨L.blk, L.off + (off + f.offset), none⟩), ?_, .ptr hb⟩
    simp [Instr.fieldAt, run_underlying hu, hfi', Instr.sureAddr, fieldPlace, run_szA hn, hn0', addr_add, Nat.add_assoc]

def indexAddrA (P : Program) (t : TypeId) (x ix : AV) : Option AV :=
  match idxA ix with
  | none => none
  | some i =>
    match P.underlying t, x with
    | some (.array len e), .ptr b off =>
      match szA P e with
      | some n => match Nat.ble (i + 1) len with
        | true => some (.ptr b (off + i * n))
        | false => none
      | none => none
    | some (.slice e), .sl b off len _ _ _ =>
      match szA P e with
      | some n => match Nat.ble (i + 1) len with
        | true => some (.ptr b (off + i * n))
        | false => none
      | none => none
    | _, _ => none

theorem indexAddrA_run {t : TypeId} {x ix a : AV} {vx vi : Value} (w : World) (hx : VRel μ x vx) (hi : VRel μ ix vi) (hf : indexAddrA P t x ix = some a) :
    ∃ v, (Instr.indexAt t vx vi).run P w = .ok v w ∧ VRel μ a v := by
  unfold indexAddrA at hf
  split at hf <;> try cases hf
  rename_i i hidx
  obtain ⟨k, rfl⟩ := idxA_rel hidx hi
  split at hf <;> try cases hf
  · rename_i len e b off hu
    split at hf <;> try cases hf
    rename_i n hn
    split at hf <;> try cases hf
    rename_i hle
    have hlt : i < len := Nat.le_of_ble_eq_true hle
    cases hx with
    | ptr hb =>
      rename_i L
      refine ⟨.pointer (some ⟨L.blk, L.off + (off + i * n), none⟩), ?_, .ptr hb⟩
      simp [Instr.indexAt, asIntOf, run_underlying hu, Instr.sureAddr, hlt, run_szA hn, addr_add, Nat.add_assoc]
  · rename_i e b off len cap sz ex hu
    split at hf <;> try cases hf
    rename_i n hn
    split at hf <;> try cases hf
    rename_i hle
    have hlt : i < len := Nat.le_of_ble_eq_true hle
    cases hx with
    | sl hb hA hl hc he hz =>
      rename_i c L A
      have hA' := hA (by omega)
      subst hA'
      refine ⟨.pointer (some ⟨L.blk, L.off + (off + i * n), none⟩), ?_, .ptr hb⟩
      simp [Instr.indexAt, asIntOf, run_underlying hu, hlt, run_szA hn, addr_add, Nat.add_assoc]

/-! ### Parts of values -/

def partA (P : Program) (t : TypeId) (cs : List AV) (off : Nat) : Option AV :=
  match shapeA P t with
  | some none => cs[off]?
  | some (some n) => match Nat.ble (off + n) cs.length with
    | true => some (.agg ((cs.drop off).take n))
    | false => none
  | none => none

theorem partA_run {t : TypeId} {cs : List AV} {vs : List Value} {off : Nat} {a : AV} (w : World) (hv : VRels μ cs vs) (hp : partA P t cs off = some a) :
    ∃ v, (part t vs.toArray off).run P w = .ok v w ∧ VRel μ a v := by
  unfold partA at hp
  split at hp <;> try cases hp
  · rename_i hs
    have hsh := run_shapeA hs w
    dsimp only at hsh
    obtain ⟨v, hv1, hv2⟩ := hv.get off a hp
    exact ⟨v, by simp [part, hsh, hv1], hv2⟩
  · rename_i n hs
    have hsh := run_shapeA hs w
    dsimp only at hsh
    split at hp <;> try cases hp
    refine ⟨.agg ((vs.drop off).take n).toArray, ?_, .agg ((hv.drop off).take n)⟩
    simp [part, hsh.1, hsh.2]

def fieldA (P : Program) (t : TypeId) (x : AV) (i : Nat) : Option AV :=
  match P.underlying t, x with
  | some (.struct fields), .agg cs =>
    match fields.toList[i]? with
    | some f => partA P f.type cs f.offset
    | none => none
  | _, _ => none

theorem fieldA_run {t : TypeId} {x a : AV} {vx : Value} {i : Nat} (w : World) (hx : VRel μ x vx) (hf : fieldA P t x i = some a) :
    ∃ v, (Instr.field t vx i).run P w = .ok v w ∧ VRel μ a v := by
  unfold fieldA at hf
  split at hf <;> try cases hf
  rename_i fields cs hu
  split at hf <;> try cases hf
  rename_i f hfi
  have hfi' : fields[i]? = some f := by simpa using hfi
  cases hx with
  | agg hs =>
    obtain ⟨v, h1, h2⟩ := partA_run w hs hf
    exact ⟨v, by simp [Instr.field, run_underlying hu, hfi', asAgg, h1], h2⟩

def indexA (P : Program) (t : TypeId) (x ix : AV) : Option AV :=
  match idxA ix with
  | none => none
  | some i =>
    match P.underlying t, x with
    | some (.array len e), .agg cs =>
      match szA P e with
      | some n => match Nat.ble (i + 1) len with
        | true => partA P e cs (i * n)
        | false => none
      | none => none
    | some .string, .str s =>
      match s.data.toList[i]? with
      | some b => some (.int .u8 (.ofNat b.toNat))
      | none => none
    | _, _ => none

theorem indexA_run {t : TypeId} {x ix a : AV} {vx vi : Value} (w : World) (hx : VRel μ x vx) (hi : VRel μ ix vi) (hf : indexA P t x ix = some a) :
    ∃ v, (Instr.index t vx vi).run P w = .ok v w ∧ VRel μ a v := by
  unfold indexA at hf
  split at hf <;> try cases hf
  rename_i i hidx
  obtain ⟨k, rfl⟩ := idxA_rel hidx hi
  split at hf <;> try cases hf
  · rename_i len e cs hu
    split at hf <;> try cases hf
    rename_i n hn
    split at hf <;> try cases hf
    rename_i hle
    have hlt : i < len := Nat.le_of_ble_eq_true hle
    cases hx with
    | agg hs =>
      obtain ⟨v, h1, h2⟩ := partA_run w hs hf
      exact ⟨v, by simp [Instr.index, asIntOf, run_underlying hu, hlt, run_szA hn, h1], h2⟩
  · rename_i s hu
    split at hf <;> try cases hf
    rename_i b hb
    cases hx with
    | str s =>
      have hb' : s[i]? = some b := by
        have hlt := (List.getElem?_eq_some_iff.1 hb)
        obtain ⟨h1, h2⟩ := hlt
        have h3 : i < s.size := by simpa using h1
        rw [getElem?_pos s i h3]
        congr 1
      exact ⟨.int .u8 b.toNat, by simp [Instr.index, asIntOf, run_underlying hu, hb'], .int _ _⟩

/-! ### Slice expressions -/

def boundA : Option AV → Option (Option Nat)
  | none => some none
  | some a => match idxA a with
    | some n => some (some n)
    | none => none

def sliceA (P : Program) (t : TypeId) (x : AV) (lo hi mx : Option AV) : Option AV :=
  match boundA lo, boundA hi, boundA mx with
  | some lo, some hi, some mx =>
    match P.underlying t, x with
    | some (.slice e), .sl b off len cap sz ex =>
      match szA P e with
      | none => none
      | some n =>
        match mx, hi with
        | some m, some h =>
          match Nat.ble m cap, Nat.ble h m, Nat.ble (lo.getD 0) h, Nat.beq n sz with
          | true, true, true, true => some (.sl b (off + lo.getD 0 * n) (h - lo.getD 0) (m - lo.getD 0) sz true)
          | _, _, _, _ => none
        | none, hi =>
          match Nat.ble (hi.getD len) cap, Nat.ble (lo.getD 0) (hi.getD len), Nat.beq n sz with
          | true, true, true => some (.sl b (off + lo.getD 0 * n) (hi.getD len - lo.getD 0) (cap - lo.getD 0) sz ex)
          | _, _, _ => none
        | _, _ => none
    | some (.slice e), .nils =>
      match szA P e, mx with
      | some _, none =>
        match Nat.beq (hi.getD 0) 0, Nat.beq (lo.getD 0) 0 with
        | true, true => some .nils
        | _, _ => none
      | some _, some m =>
        match hi with
        | none => none
        | some h =>
          match Nat.beq m 0, Nat.beq h 0, Nat.beq (lo.getD 0) 0 with
          | true, true, true => some .nils
          | _, _, _ => none
      | _, _ => none
    | some (.array n e), .ptr b off =>
      match szA P e with
      | none => none
      | some sz =>
        match mx, hi with
        | some m, some h =>
          match Nat.ble m n, Nat.ble h m, Nat.ble (lo.getD 0) h with
          | true, true, true => some (.sl b (off + lo.getD 0 * sz) (h - lo.getD 0) (m - lo.getD 0) sz true)
          | _, _, _ => none
        | none, hi =>
          match Nat.ble (hi.getD n) n, Nat.ble (lo.getD 0) (hi.getD n) with
          | true, true => some (.sl b (off + lo.getD 0 * sz) (hi.getD n - lo.getD 0) (n - lo.getD 0) sz true)
          | _, _ => none
        | _, _ => none
    | some .string, .str s =>
      match mx with
      | some _ => none
      | none => match Nat.ble (hi.getD s.size) s.size, Nat.ble (lo.getD 0) (hi.getD s.size) with
        | true, true => some (.str (s.extract (lo.getD 0) (hi.getD s.size)))
        | _, _ => none
    | _, _ => none
  | _, _, _ => none

def ORel (μ : Places) (x : Option AV) (v : Option Value) : Prop :=
  match x, v with
  | some a, some v => VRel μ a v
  | none, none => True
  | _, _ => False

def NRel (n : Option Nat) (vx : Option Value) : Prop :=
  match n with
  | some n => ∃ k, vx = some (.int k (n : Int))
  | none => vx = none

theorem bound_run {x : Option AV} {n : Option Nat} {vx : Option Value} (hx : boundA x = some n) (hr : ORel μ x vx) : NRel n vx := by
  cases x with
  | none =>
    cases hx
    cases vx with
    | none => rfl
    | some _ => exact hr.elim
  | some a =>
    cases vx with
    | none => exact hr.elim
    | some v =>
      unfold boundA at hx
      dsimp only at hx
      split at hx <;> cases hx
      rename_i n hn
      obtain ⟨k, rfl⟩ := idxA_rel hn hr
      exact ⟨k, rfl⟩

theorem run_sliceBound {k : IntKind} {n y : Nat} {code : BoundsCode} (hn : n ≤ y) (w : World) : (Instr.sliceBound (.int k (n : Int)) y code).run P w = .ok n w := by
  have : (n : Int) ≤ (y : Int) := by omega
  simp [Instr.sliceBound, asIntOf, this]

theorem run_bounds {isSlice : Bool} {len cap : Nat} {vl vh vm : Option Value} {l h m : Nat} {lo hi mx : Option Nat}
    (hl : NRel lo vl) (hh : NRel hi vh) (hm : NRel mx vm)
    (em : m = mx.getD cap) (eh : h = hi.getD len) (el : l = lo.getD 0) (hmx : mx.isSome → hi.isSome)
    (h1 : m ≤ cap) (h2 : h ≤ m) (h3 : l ≤ h) (w : World) : (Instr.sliceBounds isSlice len cap vl vh vm).run P w = .ok (l, h, m) w := by
  subst em; subst eh; subst el
  unfold Instr.sliceBounds
  cases mx with
  | none =>
    change vm = none at hm; subst hm
    cases hi with
    | none =>
      change vh = none at hh; subst hh
      cases lo with
      | none => change vl = none at hl; subst hl; simp
      | some a => obtain ⟨k, rfl⟩ := hl; simp at h3 ⊢; simp [run_sliceBound h3]
    | some b =>
      obtain ⟨k, rfl⟩ := hh
      simp at h2
      cases lo with
      | none => change vl = none at hl; subst hl; simp [run_sliceBound h2]
      | some a => obtain ⟨k', rfl⟩ := hl; simp at h3; simp [run_sliceBound h2, run_sliceBound h3]
  | some c =>
    obtain ⟨k, rfl⟩ := hm
    simp at h1
    cases hi with
    | none => simp at hmx
    | some b =>
      obtain ⟨k', rfl⟩ := hh
      simp at h2
      cases lo with
      | none => change vl = none at hl; subst hl; simp [run_sliceBound h1, run_sliceBound h2]
      | some a => obtain ⟨k'', rfl⟩ := hl; simp at h3; simp [run_sliceBound h1, run_sliceBound h2, run_sliceBound h3]

theorem sliceA_run {t : TypeId} {x a : AV} {lo hi mx : Option AV} {vx : Value} {vl vh vm : Option Value} (w : World) (hx : VRel μ x vx) (hl : ORel μ lo vl) (hh : ORel μ hi vh) (hm : ORel μ mx vm)
    (hs : sliceA P t x lo hi mx = some a) : ∃ v, (Instr.sliceAt t vx vl vh vm).run P w = .ok v w ∧ VRel μ a v := by
  unfold sliceA at hs
  split at hs <;> try cases hs
  rename_i lo' hi' mx' hlo hhi hmx
  have bl := bound_run hlo hl
  have bh := bound_run hhi hh
  have bm := bound_run hmx hm
  split at hs <;> try cases hs
  · rename_i e b off len cap sz ex hu
    split at hs <;> try cases hs
    rename_i n hn
    cases hx with
    | sl hb hA hlc hc he hz =>
      rename_i c L A
      split at hs <;> try cases hs
      · rename_i m h
        split at hs <;> try cases hs
        rename_i h1 h2 h3 h4
        have h1' := Nat.le_of_ble_eq_true h1
        have h2' := Nat.le_of_ble_eq_true h2
        have h3' := Nat.le_of_ble_eq_true h3
        have h4' := Nat.eq_of_beq_eq_true h4
        subst h4'
        have hb' := run_bounds (P := P) (isSlice := true) (len := len) (cap := c) bl bh bm rfl rfl rfl (fun _ => rfl) (by simp; omega) (by simpa using h2') (by simpa using h3') w
        simp only [Option.getD_some] at hb'
        have hcn : m - lo'.getD 0 ≠ 0 → c ≠ 0 := by omega
        refine ⟨.slice (some (if m = lo'.getD 0 then A else A.add (lo'.getD 0 * n))) (h - lo'.getD 0) (m - lo'.getD 0), ?_, .sl hb ?_ (by omega) (Nat.le_refl _) (fun _ => rfl) ?_⟩
        · simp only [Instr.sliceAt, Sem.run_bind, run_underlying hu, Result.andThen_ok, Instr.slice, hb', run_szA hn, Sem.run_pure]
          split <;> simp_all
        · intro h0
          rw [if_neg (by omega), hA (hcn h0), addr_add, Nat.add_assoc]
        · intro hex; cases hex
      · split at hs <;> try cases hs
        rename_i h1 h2 h3
        have h1' := Nat.le_of_ble_eq_true h1
        have h2' := Nat.le_of_ble_eq_true h2
        have h3' := Nat.eq_of_beq_eq_true h3
        subst h3'
        have hb' := run_bounds (P := P) (isSlice := true) (len := len) (cap := c) bl bh bm rfl rfl rfl (fun h => by cases h) (by simp) (by simp; omega) h2' w
        simp only [Option.getD_none] at hb'
        have hcn : c - lo'.getD 0 ≠ 0 → c ≠ 0 := by omega
        refine ⟨.slice (some (if c = lo'.getD 0 then A else A.add (lo'.getD 0 * n))) (hi'.getD len - lo'.getD 0) (c - lo'.getD 0), ?_, .sl hb ?_ (by omega) (by omega) (fun h => by have := he h; omega) ?_⟩
        · simp only [Instr.sliceAt, Sem.run_bind, run_underlying hu, Result.andThen_ok, Instr.slice, hb', run_szA hn, Sem.run_pure]
          split <;> simp_all
        · intro h0
          rw [if_neg (by omega), hA (hcn h0), addr_add, Nat.add_assoc]
        · intro hex h0
          have := hz hex (hcn h0)
          have e1 : lo'.getD 0 * n + (c - lo'.getD 0) * n = c * n := by rw [← Nat.add_mul]; congr 1; omega
          omega
  · rename_i e hu
    cases hx
    have key : ∀ n, szA P e = some n → lo'.getD 0 = 0 → hi'.getD 0 = 0 → mx'.getD 0 = 0 → (mx'.isSome → hi'.isSome) →
        ∃ v, (Instr.sliceAt t (.slice none 0 0) vl vh vm).run P w = .ok v w ∧ VRel μ AV.nils v := by
      intro n hn k1 k2 k3 k4
      have hb' := run_bounds (P := P) (isSlice := true) (len := 0) (cap := 0) bl bh bm rfl rfl rfl k4 (by omega) (by omega) (by omega) w
      rw [k1, k2, k3] at hb'
      refine ⟨.slice none 0 0, ?_, .nils⟩
      simp [Instr.sliceAt, run_underlying hu, Instr.slice, hb', run_szA hn]
    split at hs <;> try cases hs
    · rename_i n hn
      split at hs <;> try cases hs
      rename_i h1 h2
      exact key n hn (Nat.eq_of_beq_eq_true h2) (Nat.eq_of_beq_eq_true h1) rfl (fun h => by cases h)
    · rename_i n m hn
      split at hs <;> try cases hs
      rename_i h
      split at hs <;> try cases hs
      rename_i h1 h2 h3
      exact key n hn (Nat.eq_of_beq_eq_true h3) (by simpa using Nat.eq_of_beq_eq_true h2) (by simpa using Nat.eq_of_beq_eq_true h1) (fun _ => rfl)
  · rename_i n e b off hu
    split at hs <;> try cases hs
    rename_i sz hn
    cases hx with
    | ptr hb =>
      rename_i L
      split at hs <;> try cases hs
      · rename_i m h
        split at hs <;> try cases hs
        rename_i h1 h2 h3
        have h1' := Nat.le_of_ble_eq_true h1
        have h2' := Nat.le_of_ble_eq_true h2
        have h3' := Nat.le_of_ble_eq_true h3
        have hb' := run_bounds (P := P) (isSlice := false) (len := n) (cap := n) bl bh bm rfl rfl rfl (fun _ => rfl) (by simpa using h1') (by simpa using h2') (by simpa using h3') w
        simp only [Option.getD_some] at hb'
        refine ⟨.slice (some (if m = lo'.getD 0 then ⟨L.blk, L.off + off, none⟩ else (⟨L.blk, L.off + off, none⟩ : Addr).add (lo'.getD 0 * sz))) (h - lo'.getD 0) (m - lo'.getD 0), ?_, .sl hb ?_ (by omega) (Nat.le_refl _) (fun _ => rfl) (fun hex => by cases hex)⟩
        · simp [Instr.sliceAt, run_underlying hu, Instr.sureAddr, hb', run_szA hn]
        · intro h0
          rw [if_neg (by omega), addr_add, Nat.add_assoc]
      · split at hs <;> try cases hs
        rename_i h1 h2
        have h1' := Nat.le_of_ble_eq_true h1
        have h2' := Nat.le_of_ble_eq_true h2
        have hb' := run_bounds (P := P) (isSlice := false) (len := n) (cap := n) bl bh bm rfl rfl rfl (fun h => by cases h) (by simp) (by simpa using h1') h2' w
        simp only [Option.getD_none] at hb'
        refine ⟨.slice (some (if n = lo'.getD 0 then ⟨L.blk, L.off + off, none⟩ else (⟨L.blk, L.off + off, none⟩ : Addr).add (lo'.getD 0 * sz))) (hi'.getD n - lo'.getD 0) (n - lo'.getD 0), ?_, .sl hb ?_ (by omega) (Nat.le_refl _) (fun _ => rfl) (fun hex => by cases hex)⟩
        · simp [Instr.sliceAt, run_underlying hu, Instr.sureAddr, hb', run_szA hn]
        · intro h0
          rw [if_neg (by omega), addr_add, Nat.add_assoc]
  · rename_i s hu
    cases hx
    split at hs <;> try cases hs
    split at hs <;> try cases hs
    rename_i h1 h2
    have h1' := Nat.le_of_ble_eq_true h1
    have h2' := Nat.le_of_ble_eq_true h2
    change vm = none at bm
    subst bm
    have hb' := run_bounds (P := P) (isSlice := false) (len := s.size) (cap := s.size) (mx := none) bl bh rfl rfl rfl rfl (fun h => by cases h) (by simp) (by simpa using h1') h2' w
    exact ⟨_, by simp [Instr.sliceAt, run_underlying hu, Instr.slice, hb'], .str _⟩

end
end
end Go.Proofs.Ytllldiokcnheiaa.Ab
