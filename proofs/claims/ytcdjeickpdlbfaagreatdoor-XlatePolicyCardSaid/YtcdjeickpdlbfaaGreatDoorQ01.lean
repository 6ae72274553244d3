/- A part of the proof that XlatePolicy returns true at every argument: the reader machine and this translation under it. Conditions: those that each theorem bears. -/
import Derived.Orders
import Derived.MapKept
import Derived.KernelRfl
import Derived.Below
import Derived.Laws.NewFold
import Derived.Laws.CopyRow
import Derived.Laws.IdiomCopy
section
set_option linter.unusedVariables false
namespace Go.Proofs.QQ
open Go

/-- Abstract values. `ip cells`: a pointer at cells that nobody writes any more; `sl`: a slice of such cells; `ptr`, `ms`, `mp`: places in mutable objects
(number, generation, offset). `bad` stands for any value whatever. -/
inductive AV where
  | bool (b : Bool)
  | int (k : IntKind) (n : Int)
  | str (s : List UInt8)
  | nilp
  | ptr (o g off : Nat)
  | ip (cells : List AV)
  | nils
  | sl (full : Bool) (len : Nat) (cells : List AV)
  | ms (o g off len esz : Nat)
  | nilm
  | mp (o : Nat)
  | fn (f : Fn) (first captured : List AV)
  | nilf
  | ifc (t : TypeId) (v : AV)
  | nili
  | agg (cells : List AV)
  | tup (vs : List AV)
  | it (o : Nat)
  | bad
  deriving Inhabited

/-- Values that lead to no object: what protected cells may hold. -/
def pureS : AV → Bool
  | .bool _ | .int _ _ | .str _ | .nilp | .ip _ | .nils | .sl .. | .nilm | .nilf | .nili | .bad => true
  | .fn _ [] [] => true
  | _ => false

/-- A mutable object: a row of cells (generation, watermark: below it nothing is written), a map, an iterator over a string. -/
inductive Obj where
  | row (cells : List AV) (g wm : Nat)
  | map (es : List (AV × AV))
  | iter (s : List UInt8) (pos : Nat)
  deriving Inhabited

/-- A state: how many objects, which, and from which number on they may be written. -/
structure St where
  n : Nat
  at_ : Nat → Obj
  base : Nat
  ty : Nat → Option TypeId

def St.set (σ : St) (o : Nat) (x : Obj) : St := { σ with at_ := fun j => if j = o then x else σ.at_ j }
def St.setT (σ : St) (o : Nat) (x : Obj) (t : Option TypeId) : St := { σ with at_ := fun j => if j = o then x else σ.at_ j, ty := fun j => if j = o then t else σ.ty j }
def St.push (σ : St) (x : Obj) (t : Option TypeId) : St := { n := σ.n + 1, at_ := fun j => if j = σ.n then x else σ.at_ j, base := σ.base, ty := fun j => if j = σ.n then t else σ.ty j }

/-- The ghost: where the objects lie in the world, and which cells are protected. -/
structure Gh where
  n : Nat
  blk : Nat → Nat
  gen : Nat → Nat
  fix : Nat → Prop
  room : Nat → Nat
  prot : Nat → Nat → Prop

inductive VRel (γ : Gh) (w : World) : AV → Value → Prop
  | bool (b) : VRel γ w (.bool b) (.bool b)
  | int (k n) : VRel γ w (.int k n) (.int k n)
  | str (s : List UInt8) : VRel γ w (.str s) (.string ⟨s.toArray⟩)
  | nilp : VRel γ w .nilp (.pointer none)
  | ptr (o g off a) (ho : o < γ.n) (hg : g ≤ γ.gen o) (ha : g = γ.gen o → a = ⟨γ.blk o, off, none⟩) : VRel γ w (.ptr o g off) (.pointer (some a))
  | ip (cells : List AV) (b off : Nat) (f : Nat → Value)
      (hp : ∀ i, i < cells.length → γ.prot b (off + i) ∧ w.cell? ⟨b, off + i, none⟩ = some (f i))
      (hq : ∀ i (h : i < cells.length), pureS cells[i] = true) (hr : ∀ i (h : i < cells.length), VRel γ w cells[i] (f i)) : VRel γ w (.ip cells) (.pointer (some ⟨b, off, none⟩))
  | nils : VRel γ w .nils (.slice none 0 0)
  | sl (full : Bool) (len : Nat) (cells : List AV) (b off cap : Nat) (f : Nat → Value) (hcap : len ≤ cap) (hfull : full = true → cap = len)
      (hp : ∀ i, i < cells.length → γ.prot b (off + i) ∧ w.cell? ⟨b, off + i, none⟩ = some (f i))
      (hq : ∀ i (h : i < cells.length), pureS cells[i] = true) (hr : ∀ i (h : i < cells.length), VRel γ w cells[i] (f i)) : VRel γ w (.sl full len cells) (.slice (some ⟨b, off, none⟩) len cap)
  | ms (o g off len esz a cap) (ho : o < γ.n) (hg : g ≤ γ.gen o) (hcap : len ≤ cap)
      (ha : g = γ.gen o → a = ⟨γ.blk o, off, none⟩ ∧ off + cap * esz ≤ γ.room o) : VRel γ w (.ms o g off len esz) (.slice (some a) len cap)
  | nilm : VRel γ w .nilm (.map none)
  | mp (o b) (ho : o < γ.n) (hb : b = γ.blk o) (hg : γ.fix o) : VRel γ w (.mp o) (.map (some b))
  | fn (f) (first captured : List AV) (c1 c2 : Array Value) (h1 : c1.size = first.length) (h2 : c2.size = captured.length)
      (r1 : ∀ i (h : i < first.length), VRel γ w first[i] (c1.getD i undef)) (r2 : ∀ i (h : i < captured.length), VRel γ w captured[i] (c2.getD i undef)) :
      VRel γ w (.fn f first captured) (.func f c1 c2)
  | nilf : VRel γ w .nilf .nilFunc
  | ifc (t v cv) (h : VRel γ w v cv) : VRel γ w (.ifc t v) (.iface t cv)
  | nili : VRel γ w .nili .nilIface
  | agg (cells : List AV) (cs : Array Value) (hl : cs.size = cells.length) (hr : ∀ i (h : i < cells.length), VRel γ w cells[i] (cs.getD i undef)) :
      VRel γ w (.agg cells) (.agg cs)
  | tup (vs : List AV) (cs : Array Value) (hl : cs.size = vs.length) (hr : ∀ i (h : i < vs.length), VRel γ w vs[i] (cs.getD i undef)) :
      VRel γ w (.tup vs) (.tuple cs)
  | it (o b) (ho : o < γ.n) (hb : b = γ.blk o) (hg : γ.fix o) : VRel γ w (.it o) (.pointer (some ⟨b, 0, none⟩))
  | bad (cv) : VRel γ w .bad cv

/-- What a step leaves: old objects stay where they are unless their generation has gone up; protected cells stay. -/
structure Evo (γ : Gh) (w : World) (γ' : Gh) (w' : World) : Prop where
  n : γ.n ≤ γ'.n
  gen : ∀ o, o < γ.n → γ.gen o ≤ γ'.gen o
  same : ∀ o, o < γ.n → γ'.gen o = γ.gen o → γ'.blk o = γ.blk o ∧ γ'.room o = γ.room o
  fix : ∀ o, o < γ.n → γ.fix o → γ'.fix o ∧ γ'.blk o = γ.blk o
  prot : ∀ b i, γ.prot b i → γ'.prot b i ∧ w'.cell? ⟨b, i, none⟩ = w.cell? ⟨b, i, none⟩

theorem Evo.refl (γ : Gh) (w : World) : Evo γ w γ w :=
  ⟨Nat.le_refl _, fun _ _ => Nat.le_refl _, fun _ _ _ => ⟨rfl, rfl⟩, fun _ _ h => ⟨h, rfl⟩, fun _ _ h => ⟨h, rfl⟩⟩

theorem Evo.trans {γ γ₁ γ₂ : Gh} {w w₁ w₂ : World} (h : Evo γ w γ₁ w₁) (k : Evo γ₁ w₁ γ₂ w₂) : Evo γ w γ₂ w₂ where
  n := Nat.le_trans h.n k.n
  gen o ho := Nat.le_trans (h.gen o ho) (k.gen o (Nat.lt_of_lt_of_le ho h.n))
  same o ho e := by
    have ho' := Nat.lt_of_lt_of_le ho h.n
    have h1 := h.gen o ho
    have h2 := k.gen o ho'
    have e1 : γ₁.gen o = γ.gen o := by omega
    have e2 : γ₂.gen o = γ₁.gen o := by omega
    have a := h.same o ho e1
    have b := k.same o ho' e2
    exact ⟨b.1.trans a.1, b.2.trans a.2⟩
  fix o ho hf := by
    have a := h.fix o ho hf
    have b := k.fix o (Nat.lt_of_lt_of_le ho h.n) a.1
    exact ⟨b.1, b.2.trans a.2⟩
  prot b i hp := by
    have a := h.prot b i hp
    have b := k.prot b i a.1
    exact ⟨b.1, b.2.trans a.2⟩

theorem VRel.mono {γ γ' : Gh} {w w' : World} {v : AV} {cv : Value} (h : VRel γ w v cv) (e : Evo γ w γ' w') : VRel γ' w' v cv := by
  induction h with
  | bool b => exact .bool b
  | int k n => exact .int k n
  | str s => exact .str s
  | nilp => exact .nilp
  | ptr o g off a ho hg ha =>
    refine .ptr o g off a (Nat.lt_of_lt_of_le ho e.n) (Nat.le_trans hg (e.gen o ho)) fun h => ?_
    have h1 := e.gen o ho
    have h2 : γ'.gen o = γ.gen o := by omega
    rw [(e.same o ho h2).1]
    exact ha (by omega)
  | ip cells b off f hp hq hr ih => exact .ip cells b off f (fun i hi => ⟨(e.prot _ _ (hp i hi).1).1, (e.prot _ _ (hp i hi).1).2.trans (hp i hi).2⟩) hq ih
  | nils => exact .nils
  | sl full len cells b off cap f hcap hfull hp hq hr ih =>
    exact .sl full len cells b off cap f hcap hfull (fun i hi => ⟨(e.prot _ _ (hp i hi).1).1, (e.prot _ _ (hp i hi).1).2.trans (hp i hi).2⟩) hq ih
  | ms o g off len esz a cap ho hg hcap ha =>
    refine .ms o g off len esz a cap (Nat.lt_of_lt_of_le ho e.n) (Nat.le_trans hg (e.gen o ho)) hcap fun h => ?_
    have h1 := e.gen o ho
    have h2 : γ'.gen o = γ.gen o := by omega
    rw [(e.same o ho h2).1, (e.same o ho h2).2]
    exact ha (by omega)
  | nilm => exact .nilm
  | mp o b ho hb hg => exact .mp o b (Nat.lt_of_lt_of_le ho e.n) (hb.trans (e.fix o ho hg).2.symm) (e.fix o ho hg).1
  | fn f first captured c1 c2 h1 h2 r1 r2 ih1 ih2 => exact .fn f first captured c1 c2 h1 h2 ih1 ih2
  | nilf => exact .nilf
  | ifc t v cv h ih => exact .ifc t v cv ih
  | nili => exact .nili
  | agg cells cs hl hr ih => exact .agg cells cs hl ih
  | tup vs cs hl hr ih => exact .tup vs cs hl ih
  | it o b ho hb hg => exact .it o b (Nat.lt_of_lt_of_le ho e.n) (hb.trans (e.fix o ho hg).2.symm) (e.fix o ho hg).1
  | bad cv => exact .bad cv

/-- A value that leads to no object hangs on the protected cells alone. -/
theorem VRel.pure {γ γ' : Gh} {w w' : World} {v : AV} {cv : Value} (h : VRel γ w v cv) (hs : pureS v = true) (e : ∀ b i, γ.prot b i → γ'.prot b i ∧ w'.cell? ⟨b, i, none⟩ = w.cell? ⟨b, i, none⟩) : VRel γ' w' v cv := by
  induction h with
  | bool b => exact .bool b
  | int k n => exact .int k n
  | str s => exact .str s
  | nilp => exact .nilp
  | ip cells b off f hp hq hr ih => exact .ip cells b off f (fun i hi => ⟨(e _ _ (hp i hi).1).1, (e _ _ (hp i hi).1).2.trans (hp i hi).2⟩) hq fun i hi => ih i hi (hq i hi)
  | nils => exact .nils
  | sl full len cells b off cap f hcap hfull hp hq hr ih =>
    exact .sl full len cells b off cap f hcap hfull (fun i hi => ⟨(e _ _ (hp i hi).1).1, (e _ _ (hp i hi).1).2.trans (hp i hi).2⟩) hq fun i hi => ih i hi (hq i hi)
  | nilm => exact .nilm
  | nilf => exact .nilf
  | nili => exact .nili
  | bad cv => exact .bad cv
  | fn f first captured c1 c2 h1 h2 r1 r2 =>
    cases first with
    | cons _ _ => simp [pureS] at hs
    | nil => cases captured with
      | cons _ _ => simp [pureS] at hs
      | nil => exact .fn f [] [] c1 c2 h1 h2 (fun i h => absurd h (by simp)) (fun i h => absurd h (by simp))
  | _ => simp [pureS] at hs

/-- How an object lies in the world. -/
def ObjRel (γ : Gh) (w : World) (o : Nat) : Obj → Prop
  | .row cells g wm => (g = γ.gen o ∧ ¬ γ.fix o) ∧ ∃ (c : Array Value) (el : TypeId) (fr : Nat × Nat), w.heap[γ.blk o]? = some (.cells c el fr) ∧ c.size = γ.room o ∧
      cells.length ≤ c.size ∧ (∀ i (h : i < cells.length), VRel γ w cells[i] (c.getD i undef)) ∧
      (∀ i, wm ≤ i → i < c.size → w.frozen? ⟨γ.blk o, i, none⟩ = false) ∧ ∀ i, γ.prot (γ.blk o) i → i < wm
  | .map es => γ.fix o ∧ (∃ (ms : Array MapEntry) (clock : Nat), w.heap[γ.blk o]? = some (.map ms clock) ∧ ms.size = es.length ∧
      (∀ i (h : i < es.length), VRel γ w es[i].1 (ms.getD i default).key ∧ VRel γ w es[i].2 (ms.getD i default).val) ∧ MapKept.Stamped ms clock) ∧ ∀ i, ¬ γ.prot (γ.blk o) i
  | .iter s pos => γ.fix o ∧ w.heap[γ.blk o]? = some (.stringIter ⟨s.toArray⟩ pos) ∧ ∀ i, ¬ γ.prot (γ.blk o) i

/-- What is frozen of a row is nothing, or begins within it. -/
def FrOk (c : Array Value) (fr : Nat × Nat) : Prop := fr.1 = fr.2 ∨ (fr.1 < fr.2 ∧ fr.1 < c.size)

/-- The element type of an object's row. -/
def TyAt (γ : Gh) (w : World) (o : Nat) (t : TypeId) : Prop := ∃ (c : Array Value) (fr : Nat × Nat), w.heap[γ.blk o]? = some (.cells c t fr) ∧ FrOk c fr

/-- What the tables of the program's constants say. -/
structure Rel (G : Nat → Option (List AV)) (γ : Gh) (σ : St) (w : World) : Prop where
  n : σ.n = γ.n
  base : σ.base ≤ σ.n
  obj : ∀ o, o < γ.n → ObjRel γ w o (σ.at_ o)
  inj : ∀ o o', o < γ.n → o' < γ.n → γ.blk o = γ.blk o' → o = o'
  lt : ∀ o, o < γ.n → γ.blk o < w.heap.size
  prot : ∀ b i, γ.prot b i → (w.cell? ⟨b, i, none⟩).isSome
  glob : ∀ g cells, G g = some cells → VRel γ w (.ip cells) (.pointer (some ⟨g, 0, none⟩))
  ty : ∀ o t, o < γ.n → σ.ty o = some t → TyAt γ w o t

/-- A step: evolution, and the frame: only blocks of objects from `base` on are written. -/
structure Step (γ : Gh) (base : Nat) (w : World) (γ' : Gh) (w' : World) : Prop extends Evo γ w γ' w' where
  os : w'.os = w.os
  tape : w'.tape = w.tape
  output : w'.output = w.output
  size : w.heap.size ≤ w'.heap.size
  frame : ∀ b, b < w.heap.size → (∀ o, base ≤ o → o < γ.n → γ.blk o ≠ b) → w'.heap[b]? = w.heap[b]?
  old : ∀ o, o < base → o < γ.n → γ'.gen o = γ.gen o
  oldp : ∀ o i, o < base → o < γ.n → γ'.prot (γ.blk o) i → γ.prot (γ.blk o) i
  new : ∀ o, base ≤ o → o < γ'.n → (o < γ.n ∧ γ'.blk o = γ.blk o) ∨ w.heap.size ≤ γ'.blk o
  newp : ∀ b i, γ'.prot b i → γ.prot b i ∨ w.heap.size ≤ b ∨ ∃ o, base ≤ o ∧ o < γ.n ∧ γ.blk o = b

theorem Step.refl (γ : Gh) (base : Nat) (w : World) : Step γ base w γ w :=
  { Evo.refl γ w with os := rfl, tape := rfl, output := rfl, size := Nat.le_refl _, frame := fun _ _ _ => rfl, old := fun _ _ _ => rfl, oldp := fun _ _ _ _ h => h, new := fun _ _ h => .inl ⟨h, rfl⟩, newp := fun _ _ h => .inl h }

theorem Step.trans {γ γ₁ γ₂ : Gh} {base : Nat} {w w₁ w₂ : World} (h : Step γ base w γ₁ w₁) (k : Step γ₁ base w₁ γ₂ w₂) : Step γ base w γ₂ w₂ :=
  { h.toEvo.trans k.toEvo with
    os := k.os.trans h.os
    tape := k.tape.trans h.tape
    output := k.output.trans h.output
    size := Nat.le_trans h.size k.size
    frame := fun b hb ho => by
      rw [k.frame b (Nat.lt_of_lt_of_le hb h.size) fun o h1 h2 he => ?_, h.frame b hb ho]
      rcases h.new o h1 h2 with ⟨h3, h4⟩ | h3
      · exact ho o h1 h3 (h4 ▸ he)
      · omega
    old := fun o h1 h2 => (k.old o h1 (Nat.lt_of_lt_of_le h2 h.n)).trans (h.old o h1 h2)
    oldp := fun o i h1 h2 hp => by
      have e := (h.same o h2 (h.old o h1 h2)).1
      have := k.oldp o i h1 (Nat.lt_of_lt_of_le h2 h.n) (by rw [e]; exact hp)
      rw [e] at this
      exact h.oldp o i h1 h2 this
    new := fun o h1 h2 => by
      rcases k.new o h1 h2 with ⟨h3, h4⟩ | h3
      · rcases h.new o h1 h3 with ⟨h5, h6⟩ | h5
        · exact .inl ⟨h5, h4.trans h6⟩
        · exact .inr (by omega)
      · exact .inr (Nat.le_trans h.size h3)
    newp := fun b i hp => by
      rcases k.newp b i hp with h1 | h1 | ⟨o, h1, h2, h3⟩
      · exact h.newp b i h1
      · exact .inr (.inl (Nat.le_trans h.size h1))
      · rcases h.new o h1 h2 with ⟨h5, h6⟩ | h5
        · exact .inr (.inr ⟨o, h1, h5, h6.symm.trans h3⟩)
        · exact .inr (.inl (h3 ▸ h5)) }

/-- A step whose writes begin later is one whose writes begin earlier. -/
theorem Step.weaken {γ γ' : Gh} {base base' : Nat} {w w' : World} (h : Step γ base w γ' w') (hb : base' ≤ base) (hn : ∀ o, o < base → o < γ'.n → o < γ.n) : Step γ base' w γ' w' :=
  { h.toEvo with
    os := h.os, tape := h.tape, output := h.output, size := h.size
    frame := fun b hlt ho => h.frame b hlt fun o h1 h2 => ho o (Nat.le_trans hb h1) h2
    old := fun o h1 h2 => h.old o (Nat.lt_of_lt_of_le h1 hb) h2
    oldp := fun o i h1 h2 => h.oldp o i (Nat.lt_of_lt_of_le h1 hb) h2
    new := fun o h1 h2 => by
      by_cases hlt : o < base
      · have h3 := hn o hlt h2
        exact .inl ⟨h3, (h.same o h3 (h.old o hlt h3)).1⟩
      · exact h.new o (by omega) h2
    newp := fun b i hp => by
      rcases h.newp b i hp with h1 | h1 | ⟨o, h1, h2, h3⟩
      · exact .inl h1
      · exact .inr (.inl h1)
      · exact .inr (.inr ⟨o, Nat.le_trans hb h1, h2, h3⟩) }

end Go.Proofs.QQ
end
section
set_option linter.unusedVariables false
namespace Go.Proofs.QQ
open Go

abbrev Glob := Nat → Option (List AV)
variable {G : Glob} {γ : Gh} {σ : St} {w : World}

/-- A change of the world that leaves all old blocks. -/
structure Fresh (w w' : World) : Prop where
  os : w'.os = w.os
  tape : w'.tape = w.tape
  output : w'.output = w.output
  size : w.heap.size ≤ w'.heap.size
  block : ∀ b, b < w.heap.size → w'.heap[b]? = w.heap[b]?

theorem Fresh.cell {w w' : World} (h : Fresh w w') {b i : Nat} (hb : b < w.heap.size) : w'.cell? ⟨b, i, none⟩ = w.cell? ⟨b, i, none⟩ := by
  simp only [World.cell?, h.block b hb]
theorem Fresh.frozen {w w' : World} (h : Fresh w w') {b i : Nat} (hb : b < w.heap.size) : w'.frozen? ⟨b, i, none⟩ = w.frozen? ⟨b, i, none⟩ := by
  simp only [World.frozen?, h.block b hb]
theorem Fresh.alloc (w : World) (o : Go.Obj) : Fresh w (w.alloc o) :=
  ⟨rfl, rfl, rfl, by simp, fun b hb => by simp only [World.alloc, Array.getElem?_push]; rw [if_neg (by omega)]⟩
theorem Fresh.drew (w : World) : Fresh w w.drew := ⟨rfl, rfl, rfl, Nat.le_refl _, fun _ _ => rfl⟩
theorem Fresh.trans {a b c : World} (h : Fresh a b) (k : Fresh b c) : Fresh a c :=
  ⟨k.os.trans h.os, k.tape.trans h.tape, k.output.trans h.output, Nat.le_trans h.size k.size, fun i hi => (k.block i (Nat.lt_of_lt_of_le hi h.size)).trans (h.block i hi)⟩
theorem Fresh.refl (w : World) : Fresh w w := ⟨rfl, rfl, rfl, Nat.le_refl _, fun _ _ => rfl⟩

theorem cell_lt {w : World} {b i : Nat} (h : (w.cell? ⟨b, i, none⟩).isSome) : b < w.heap.size := by
  obtain ⟨v, hv⟩ := Option.isSome_iff_exists.1 h
  exact World.block_lt_of_cell? w _ hv

/-- Protected cells' blocks are there. -/
theorem Rel.protLt (h : Rel G γ σ w) {b i : Nat} (hp : γ.prot b i) : b < w.heap.size := cell_lt (h.prot b i hp)

theorem Fresh.evo {w' : World} (h : Rel G γ σ w) (f : Fresh w w') : Evo γ w γ w' :=
  ⟨Nat.le_refl _, fun _ _ => Nat.le_refl _, fun _ _ _ => ⟨rfl, rfl⟩, fun _ _ h => ⟨h, rfl⟩, fun b i hp => ⟨hp, f.cell (h.protLt hp)⟩⟩

theorem ObjRel.fresh {w' : World} {γ' : Gh} {o : Nat} {x : Obj} (hx : ObjRel γ w o x) (hb : γ.blk o < w.heap.size) (f : Fresh w w') (e : Evo γ w γ' w')
    (h1 : γ'.blk o = γ.blk o) (h2 : γ'.gen o = γ.gen o) (h3 : γ'.room o = γ.room o) (h4 : γ.fix o ↔ γ'.fix o) (h5 : ∀ i, γ'.prot (γ.blk o) i → γ.prot (γ.blk o) i) : ObjRel γ' w' o x := by
  cases x with
  | row cells g wm =>
    obtain ⟨hg, c, el, fr, hh, hs, hl, hv, hf, hp⟩ := hx
    refine ⟨⟨hg.1.trans h2.symm, fun hf => hg.2 (h4.2 hf)⟩, c, el, fr, by rw [h1, f.block _ hb]; exact hh, hs.trans h3.symm, hl, fun i h => (hv i h).mono e, fun i h => ?_, fun i h => hp i (h5 i (h1 ▸ h))⟩
    rw [h1, f.frozen hb]; exact hf i h
  | map es =>
    obtain ⟨hf, ⟨ms, clock, hh, hl, hv, hst⟩, hp⟩ := hx
    exact ⟨h4.1 hf, ⟨ms, clock, by rw [h1, f.block _ hb]; exact hh, hl, fun i h => ⟨(hv i h).1.mono e, (hv i h).2.mono e⟩, hst⟩, fun i h => hp i (h5 i (h1 ▸ h))⟩
  | iter s pos =>
    obtain ⟨hf, hh, hp⟩ := hx
    exact ⟨h4.1 hf, by rw [h1, f.block _ hb]; exact hh, fun i h => hp i (h5 i (h1 ▸ h))⟩

/-- Whatever is new in the world: the relation stays. -/
theorem Rel.fresh {w' : World} (h : Rel G γ σ w) (f : Fresh w w') : Rel G γ σ w' where
  n := h.n
  base := h.base
  obj o ho := (h.obj o ho).fresh (h.lt o ho) f (f.evo h) rfl rfl rfl Iff.rfl fun _ h => h
  inj := h.inj
  lt o ho := Nat.lt_of_lt_of_le (h.lt o ho) f.size
  prot b i hp := by rw [f.cell (h.protLt hp)]; exact h.prot b i hp
  glob g cells hg := (h.glob g cells hg).mono (f.evo h)
  ty o t ho ht := by
    obtain ⟨c, fr, hc, hf⟩ := h.ty o t ho ht
    exact ⟨c, fr, (f.block _ (h.lt o ho)).trans hc, hf⟩

theorem Fresh.step {w' : World} (h : Rel G γ σ w) (f : Fresh w w') (base : Nat) : Step γ base w γ w' :=
  { f.evo h with os := f.os, tape := f.tape, output := f.output, size := f.size, frame := fun b hb _ => f.block b hb, old := fun _ _ _ => rfl, oldp := fun _ _ _ _ h => h, newp := fun _ _ h => .inl h, new := fun _ _ h => .inl ⟨h, rfl⟩ }

/-- The ghost with a block's first cells protected. -/
def Gh.protect (γ : Gh) (b n : Nat) : Gh := { γ with prot := fun b' i => γ.prot b' i ∨ (b' = b ∧ i < n) }

/-- A new row that nobody will write. -/
theorem new_imm {w' : World} (h : Rel G γ σ w) (base : Nat) (f : Fresh w w') (cs : Array Value) (el : TypeId) (fr : Nat × Nat) (hh : w'.heap[w.heap.size]? = some (.cells cs el fr)) (n : Nat) (hn : n ≤ cs.size) :
    Step γ base w (γ.protect w.heap.size n) w' ∧ Rel G (γ.protect w.heap.size n) σ w' := by
  have e : Evo γ w (γ.protect w.heap.size n) w' :=
    ⟨Nat.le_refl _, fun _ _ => Nat.le_refl _, fun _ _ _ => ⟨rfl, rfl⟩, fun _ _ h => ⟨h, rfl⟩, fun b i hp => ⟨.inl hp, f.cell (h.protLt hp)⟩⟩
  refine ⟨{ e with os := f.os, tape := f.tape, output := f.output, size := f.size, frame := fun b hb _ => f.block b hb, old := fun _ _ _ => rfl, oldp := fun o i _ h2 hp => (by
    rcases hp with hp | ⟨hp, _⟩
    · exact hp
    · have := h.lt o h2; omega), newp := (fun b i hp => by
    rcases hp with hp | ⟨hp, _⟩
    · exact .inl hp
    · exact .inr (.inl (by omega))), new := fun _ _ h => .inl ⟨h, rfl⟩ }, ?_⟩
  exact {
    n := h.n, base := h.base
    obj := fun o ho => (h.obj o ho).fresh (h.lt o ho) f e rfl rfl rfl Iff.rfl fun i hi => by
      rcases hi with hi | ⟨hi, _⟩
      · exact hi
      · have := h.lt o ho; omega
    inj := h.inj
    lt := fun o ho => Nat.lt_of_lt_of_le (h.lt o ho) f.size
    prot := fun b i hp => by
      rcases hp with hp | ⟨hb, hi⟩
      · rw [f.cell (h.protLt hp)]; exact h.prot b i hp
      · subst hb
        simp only [World.cell?, hh]
        simp
        omega
    glob := fun g cells hg => (h.glob g cells hg).mono e
    ty := fun o t ho ht => by
      obtain ⟨c, fr, hc, hf⟩ := h.ty o t ho ht
      exact ⟨c, fr, (f.block _ (h.lt o ho)).trans hc, hf⟩ }

theorem alloc_at (w : World) (cs : Array Value) (el : TypeId) (fr : Nat × Nat) : (w.alloc (.cells cs el fr)).heap[w.heap.size]? = some (.cells cs el fr) := by
  show (w.heap.push _)[w.heap.size]? = _
  simp

theorem alloc_imm (h : Rel G γ σ w) (base : Nat) (cs : Array Value) (el : TypeId) (w' : World) (hw : w' = w.alloc (.cells cs el)) (n : Nat) (hn : n ≤ cs.size) :
    Step γ base w (γ.protect w.heap.size n) w' ∧ Rel G (γ.protect w.heap.size n) σ w' := by
  subst hw
  exact new_imm h base (Fresh.alloc _ _) cs el (0, 0) (alloc_at _ _ _ _) n hn

theorem protect_cells {w' : World} {n : Nat} {cs : Array Value} {el : TypeId} {fr : Nat × Nat} {cells : List AV} (hh : w'.heap[w.heap.size]? = some (.cells cs el fr)) (hlen : cells.length ≤ n) (hn : n ≤ cs.size) (i : Nat) (hi : i < cells.length) :
    (γ.protect w.heap.size n).prot w.heap.size (0 + i) ∧ w'.cell? ⟨w.heap.size, 0 + i, none⟩ = some (cs.getD i undef) := by
  rw [Nat.zero_add]
  refine ⟨.inr ⟨rfl, by omega⟩, ?_⟩
  have : i < cs.size := by omega
  simp [World.cell?, hh, Array.getD, this]

theorem imm_ip (h : Rel G γ σ w) {cs : Array Value} {el : TypeId} {cells : List AV} (hl : cs.size = cells.length) (hr : ∀ i (h : i < cells.length), VRel γ w cells[i] (cs.getD i undef)) (hq : ∀ i (h : i < cells.length), pureS cells[i] = true)
    (e : Evo γ w (γ.protect w.heap.size cs.size) (w.alloc (.cells cs el))) : VRel (γ.protect w.heap.size cs.size) (w.alloc (.cells cs el)) (.ip cells) (.pointer (some ⟨w.heap.size, 0, none⟩)) :=
  .ip cells w.heap.size 0 (fun i => cs.getD i undef) (fun i hi => protect_cells (alloc_at _ _ _ _) (by omega) (Nat.le_refl _) i hi) hq fun i hi => (hr i hi).mono e

theorem new_sl {w' : World} {cs : Array Value} {el : TypeId} {fr : Nat × Nat} {cells : List AV} {n len cap : Nat} {full : Bool} (hh : w'.heap[w.heap.size]? = some (.cells cs el fr)) (hl : cells.length ≤ n) (hn : n ≤ cs.size)
    (hr : ∀ i (h : i < cells.length), VRel γ w cells[i] (cs.getD i undef)) (hq : ∀ i (h : i < cells.length), pureS cells[i] = true) (hc : len ≤ cap) (hf : full = true → cap = len)
    (e : Evo γ w (γ.protect w.heap.size n) w') : VRel (γ.protect w.heap.size n) w' (.sl full len cells) (.slice (some ⟨w.heap.size, 0, none⟩) len cap) :=
  .sl full len cells w.heap.size 0 cap (fun i => cs.getD i undef) hc hf (fun i hi => protect_cells hh hl hn i hi) hq fun i hi => (hr i hi).mono e

/-- The ghost with one object more. -/
def Gh.push (γ : Gh) (b room : Nat) (fx : Prop) : Gh where
  n := γ.n + 1
  blk o := if o = γ.n then b else γ.blk o
  gen o := if o = γ.n then 0 else γ.gen o
  fix o := if o = γ.n then fx else γ.fix o
  room o := if o = γ.n then room else γ.room o
  prot := γ.prot

theorem push_evo (h : Rel G γ σ w) {w' : World} (f : Fresh w w') (room : Nat) (fx : Prop) : Evo γ w (γ.push w.heap.size room fx) w' where
  n := Nat.le_succ _
  gen o ho := by simp [Gh.push, Nat.ne_of_lt ho]
  same o ho _ := by simp [Gh.push, Nat.ne_of_lt ho]
  fix o ho hf := by simp [Gh.push, Nat.ne_of_lt ho, hf]
  prot b i hp := ⟨hp, f.cell (h.protLt hp)⟩

theorem push_rel (h : Rel G γ σ w) {w' : World} (f : Fresh w w') (room : Nat) (fx : Prop) (x : Obj) (t : Option TypeId) (ht : ∀ e, t = some e → ∃ (c : Array Value) (fr : Nat × Nat), w'.heap[w.heap.size]? = some (.cells c e fr) ∧ FrOk c fr) (base : Nat) (hlt : w.heap.size < w'.heap.size)
    (hx : ObjRel (γ.push w.heap.size room fx) w' γ.n x) (hb : base ≤ γ.n) :
    Step γ base w (γ.push w.heap.size room fx) w' ∧ Rel G (γ.push w.heap.size room fx) (σ.push x t) w' := by
  have e := push_evo h f room fx
  refine ⟨{ e with os := f.os, tape := f.tape, output := f.output, size := f.size, frame := fun b hb _ => f.block b hb, old := fun o h1 h2 => by (simp [Gh.push, Nat.ne_of_lt h2]), oldp := fun _ _ _ _ h => h, newp := fun _ _ h => .inl h, new := fun o h1 h2 => ?_ }, ?_⟩
  · by_cases ho : o = γ.n
    · exact .inr (by simp [Gh.push, ho])
    · have : o < γ.n := by simp [Gh.push] at h2; omega
      exact .inl ⟨this, by simp [Gh.push, ho]⟩
  · exact {
      n := by simp [St.push, Gh.push, h.n]
      base := by have := h.base; simp [St.push]; omega
      obj := fun o ho => by
        by_cases hn : o = γ.n
        · subst hn
          simp only [St.push, h.n, if_true]
          exact hx
        · have ho' : o < γ.n := by simp [Gh.push] at ho; omega
          have : (σ.push x t).at_ o = σ.at_ o := by simp [St.push, h.n, hn]
          rw [this]
          exact (h.obj o ho').fresh (h.lt o ho') f e (by simp [Gh.push, hn]) (by simp [Gh.push, hn]) (by simp [Gh.push, hn]) (by simp [Gh.push, hn]) fun _ h => h
      inj := fun o o' h1 h2 hb => by
        by_cases hn : o = γ.n <;> by_cases hn' : o' = γ.n
        · omega
        · have ho' : o' < γ.n := by simp [Gh.push] at h2; omega
          have := h.lt o' ho'
          simp [Gh.push, hn, hn'] at hb; omega
        · have ho : o < γ.n := by simp [Gh.push] at h1; omega
          have := h.lt o ho
          simp [Gh.push, hn, hn'] at hb; omega
        · simp [Gh.push, hn, hn'] at hb
          exact h.inj o o' (by simp [Gh.push] at h1; omega) (by simp [Gh.push] at h2; omega) hb
      lt := fun o ho => by
        by_cases hn : o = γ.n
        · simp [Gh.push, hn]; omega
        · have ho' : o < γ.n := by simp [Gh.push] at ho; omega
          have := h.lt o ho'
          have := f.size
          simp [Gh.push, hn]; omega
      prot := fun b i hp => by rw [f.cell (h.protLt hp)]; exact h.prot b i hp
      glob := fun g cells hg => (h.glob g cells hg).mono e
      ty := fun o u ho hu => by
        by_cases hn : o = γ.n
        · have hu' : t = some u := by simpa [St.push, h.n, hn] using hu
          obtain ⟨c, fr, hc, hf⟩ := ht u hu'
          exact ⟨c, fr, by simpa [Gh.push, hn] using hc, hf⟩
        · have ho' : o < γ.n := by simp [Gh.push] at ho; omega
          have hu' : σ.ty o = some u := by simpa [St.push, h.n, hn] using hu
          obtain ⟨c, fr, hc, hf⟩ := h.ty o u ho' hu'
          exact ⟨c, fr, by simp only [Gh.push, if_neg hn]; exact (f.block _ (h.lt o ho')).trans hc, hf⟩ }

/-- A new object: a row. -/
theorem new_row {w' : World} (h : Rel G γ σ w) (t : Option TypeId) (base : Nat) (hb : base ≤ γ.n) (f : Fresh w w') (cs : Array Value) (el : TypeId) (fr : Nat × Nat) (hh : w'.heap[w.heap.size]? = some (.cells cs el fr))
    (ht : ∀ u, t = some u → u = el ∧ FrOk cs fr) (hfr : ∀ i, i < cs.size → w'.frozen? ⟨w.heap.size, i, none⟩ = false) (cells : List AV) (hl : cells.length ≤ cs.size) (hr : ∀ i (h : i < cells.length), VRel γ w cells[i] (cs.getD i undef)) :
    Step γ base w (γ.push w.heap.size cs.size False) w' ∧ Rel G (γ.push w.heap.size cs.size False) (σ.push (.row cells 0 0) t) w' := by
  have e := push_evo h f cs.size False
  refine push_rel h f cs.size False (.row cells 0 0) t (fun u hu => ⟨cs, fr, by rw [(ht u hu).1]; exact hh, (ht u hu).2⟩) base (Array.getElem?_eq_some_iff.1 hh).1 ?_ hb
  refine ⟨⟨by simp [Gh.push], by simp [Gh.push]⟩, cs, el, fr, ?_, by simp [Gh.push], hl, fun i hi => (hr i hi).mono e, fun i _ hi => ?_, fun i hi => ?_⟩
  · simp only [Gh.push, if_true]; exact hh
  · simp only [Gh.push, if_true]; exact hfr i hi
  · have : γ.prot w.heap.size i := by simpa [Gh.push] using hi
    have := h.protLt this
    omega

theorem alloc_row (h : Rel G γ σ w) (base : Nat) (hb : base ≤ γ.n) (cs : Array Value) (el : TypeId) (cells : List AV) (hl : cells.length ≤ cs.size) (hr : ∀ i (h : i < cells.length), VRel γ w cells[i] (cs.getD i undef)) :
    Step γ base w (γ.push w.heap.size cs.size False) (w.alloc (.cells cs el)) ∧ Rel G (γ.push w.heap.size cs.size False) (σ.push (.row cells 0 0) (some el)) (w.alloc (.cells cs el)) :=
  new_row h (some el) base hb (Fresh.alloc _ _) cs el (0, 0) (alloc_at _ _ _ _) (fun u hu => ⟨(Option.some.inj hu).symm, .inl rfl⟩) (fun i _ => World.frozen?_alloc_new w cs el i) cells hl hr

theorem Rel.row (h : Rel G γ σ w) {o : Nat} {cells : List AV} {g wm : Nat} (ho : o < γ.n) (hx : σ.at_ o = .row cells g wm) : ObjRel γ w o (.row cells g wm) := hx ▸ h.obj o ho

/-- What a write into an object's row needs of the worlds. -/
structure Wrote (b : Nat) (w w' : World) : Prop where
  os : w'.os = w.os
  tape : w'.tape = w.tape
  output : w'.output = w.output
  size : w'.heap.size = w.heap.size
  other : ∀ b', b' ≠ b → w'.heap[b']? = w.heap[b']?

theorem ObjRel.other {w' : World} {γ' : Gh} {o b : Nat} {x : Obj} (hx : ObjRel γ w o x) (hb : γ.blk o ≠ b) (f : Wrote b w w') (e : Evo γ w γ' w')
    (h1 : γ'.blk o = γ.blk o) (h2 : γ'.gen o = γ.gen o) (h3 : γ'.room o = γ.room o) (h4 : γ.fix o ↔ γ'.fix o) (h5 : ∀ i, γ'.prot (γ.blk o) i → γ.prot (γ.blk o) i) : ObjRel γ' w' o x := by
  cases x with
  | row cells g wm =>
    obtain ⟨hg, c, el, fr, hh, hs, hl, hv, hf, hp⟩ := hx
    refine ⟨⟨hg.1.trans h2.symm, fun hf => hg.2 (h4.2 hf)⟩, c, el, fr, by rw [h1, f.other _ hb]; exact hh, hs.trans h3.symm, hl, fun i h => (hv i h).mono e, fun i hm h => ?_, fun i h => hp i (h5 i (h1 ▸ h))⟩
    have := hf i hm h
    rw [h1]
    simp only [World.frozen?, f.other _ hb] at this ⊢
    exact this
  | map es =>
    obtain ⟨hf, ⟨ms, clock, hh, hl, hv, hst⟩, hp⟩ := hx
    exact ⟨h4.1 hf, ⟨ms, clock, by rw [h1, f.other _ hb]; exact hh, hl, fun i h => ⟨(hv i h).1.mono e, (hv i h).2.mono e⟩, hst⟩, fun i h => hp i (h5 i (h1 ▸ h))⟩
  | iter s pos =>
    obtain ⟨hf, hh, hp⟩ := hx
    exact ⟨h4.1 hf, by rw [h1, f.other _ hb]; exact hh, fun i h => hp i (h5 i (h1 ▸ h))⟩

/-- The ghost with an object's generation turned on. -/
def Gh.bump (γ : Gh) (o g : Nat) : Gh := { γ with gen := fun j => if j = o then g else γ.gen j }

/-- A write into an object's row, its generation g' the same or greater. -/
theorem write_row (h : Rel G γ σ w) (base : Nat) {o : Nat} {cells : List AV} {g wm : Nat} (wm' : Nat) (hwm : wm ≤ wm') (ho : o < γ.n) (hb : base ≤ o) (hx : σ.at_ o = .row cells g wm)
    {c : Array Value} {el : TypeId} {fr : Nat × Nat} (hh : w.heap[γ.blk o]? = some (.cells c el fr)) {w' : World} (f : Wrote (γ.blk o) w w')
    {c' : Array Value} {fr' : Nat × Nat} (hh' : w'.heap[γ.blk o]? = some (.cells c' el fr')) (hs : c'.size = c.size) (hk : ∀ i, i < wm → c'[i]? = c[i]?) (hfo : FrOk c fr → FrOk c' fr')
    (hfr : ∀ i, wm' ≤ i → i < c'.size → w'.frozen? ⟨γ.blk o, i, none⟩ = false) (cells' : List AV) (g' : Nat) (hg : g ≤ g') (hl : cells'.length ≤ c'.size)
    (hv : ∀ i (h : i < cells'.length), VRel γ w cells'[i] (c'.getD i undef)) :
    Step γ base w (γ.bump o g') w' ∧ Rel G (γ.bump o g') (σ.set o (.row cells' g' wm')) w' := by
  obtain ⟨⟨hge, hnf⟩, c₀, el₀, fr₀, hh₀, hs₀, hl₀, hv₀, hf₀, hp₀⟩ := h.row ho hx
  rw [hh] at hh₀
  injection hh₀ with hh₀
  injection hh₀ with e1 e2 e3
  subst e1 e2 e3
  have e : Evo γ w (γ.bump o g') w' := {
    n := Nat.le_refl _
    gen := fun j _ => by by_cases hj : j = o <;> simp [Gh.bump, hj]; omega
    same := fun _ _ _ => ⟨rfl, rfl⟩
    fix := fun _ _ h => ⟨h, rfl⟩
    prot := fun b i hp => ⟨hp, by
      by_cases hbb : b = γ.blk o
      · subst hbb
        simp only [World.cell?, hh, hh']
        simpa using hk i (hp₀ i hp)
      · simp only [World.cell?, f.other b hbb]⟩ }
  refine ⟨{ e with os := f.os, tape := f.tape, output := f.output, size := Nat.le_of_eq f.size.symm, frame := fun b _ hne => f.other b fun he => hne o hb ho he.symm, old := fun j hj _ => by (simp [Gh.bump, show j ≠ o by omega]), oldp := fun _ _ _ _ h => h, newp := fun _ _ h => .inl h, new := fun j _ hj => .inl ⟨hj, rfl⟩ }, ?_⟩
  exact {
    n := h.n, base := h.base
    obj := fun j hj => by
      by_cases hjo : j = o
      · subst hjo
        simp only [St.set, if_true]
        exact ⟨⟨by simp [Gh.bump], hnf⟩, c', el, fr', hh', hs.trans hs₀, hl, fun i hi => (hv i hi).mono e, hfr, fun i hi => Nat.lt_of_lt_of_le (hp₀ i hi) hwm⟩
      · simp only [St.set, if_neg hjo]
        exact (h.obj j hj).other (fun he => hjo (h.inj j o hj ho he)) f e rfl (by simp [Gh.bump, hjo]) rfl Iff.rfl fun _ h => h
    inj := h.inj
    lt := fun j hj => by rw [f.size]; exact h.lt j hj
    prot := fun b i hp => by rw [(e.prot b i hp).2]; exact h.prot b i hp
    glob := fun g cells hg => (h.glob g cells hg).mono e
    ty := fun j t hj ht => by
      obtain ⟨c₁, fr₁, hc, hf⟩ := h.ty j t hj ht
      by_cases hjo : j = o
      · subst hjo
        rw [hh] at hc
        injection hc with hc
        injection hc with e1 e2 e3
        subst e1 e2 e3
        exact ⟨c', fr', hh', hfo hf⟩
      · exact ⟨c₁, fr₁, (f.other _ fun he => hjo (h.inj j o hj ho he)).trans hc, hf⟩ }

/-- The same, the generation left. -/
theorem write_row' (h : Rel G γ σ w) (base : Nat) {o : Nat} {cells : List AV} {g wm : Nat} (wm' : Nat) (hwm : wm ≤ wm') (ho : o < γ.n) (hb : base ≤ o) (hx : σ.at_ o = .row cells g wm)
    {c : Array Value} {el : TypeId} {fr : Nat × Nat} (hh : w.heap[γ.blk o]? = some (.cells c el fr)) {w' : World} (f : Wrote (γ.blk o) w w')
    {c' : Array Value} {fr' : Nat × Nat} (hh' : w'.heap[γ.blk o]? = some (.cells c' el fr')) (hs : c'.size = c.size) (hk : ∀ i, i < wm → c'[i]? = c[i]?) (hfo : FrOk c fr → FrOk c' fr')
    (hfr : ∀ i, wm' ≤ i → i < c'.size → w'.frozen? ⟨γ.blk o, i, none⟩ = false) (cells' : List AV) (hl : cells'.length ≤ c'.size)
    (hv : ∀ i (h : i < cells'.length), VRel γ w cells'[i] (c'.getD i undef)) :
    Step γ base w γ w' ∧ Rel G γ (σ.set o (.row cells' g wm')) w' := by
  have key := write_row h base wm' hwm ho hb hx hh f hh' hs hk hfo hfr cells' g (Nat.le_refl _) hl hv
  have hge := (h.row ho hx).1.1
  have heq : γ.bump o g = γ := by
    have : (fun j => if j = o then g else γ.gen j) = γ.gen := funext fun j => by by_cases hj : j = o <;> simp [hj, hge]
    simp only [Gh.bump, this]
  rwa [heq] at key

theorem FrOk.same {c c' : Array Value} {fr : Nat × Nat} (hs : c'.size = c.size) (h : FrOk c fr) : FrOk c' fr := by
  unfold FrOk at h ⊢; rw [hs]; exact h

/-- The ghost with an object's row laid elsewhere. -/
def Gh.move (γ : Gh) (o g b room : Nat) : Gh :=
  { γ with gen := fun j => if j = o then g else γ.gen j, blk := fun j => if j = o then b else γ.blk j, room := fun j => if j = o then room else γ.room j }

/-- A row that is laid anew in a block of its own. -/
theorem move_row (h : Rel G γ σ w) (base : Nat) {o : Nat} {cells : List AV} {g wm : Nat} (ho : o < γ.n) (hb : base ≤ o) (hx : σ.at_ o = .row cells g wm)
    {w' : World} (f : Fresh w w') {c' : Array Value} {el' : TypeId} {b' : Nat} (hb' : w.heap.size ≤ b') (hh' : w'.heap[b']? = some (.cells c' el' (0, 0)))
    (cells' : List AV) (wm' : Nat) (t' : Option TypeId) (ht' : ∀ u, t' = some u → u = el') (hl : cells'.length ≤ c'.size) (hv : ∀ i (h : i < cells'.length), VRel γ w cells'[i] (c'.getD i undef)) :
    Step γ base w (γ.move o (g + 1) b' c'.size) w' ∧ Rel G (γ.move o (g + 1) b' c'.size) (σ.setT o (.row cells' (g + 1) wm') t') w' := by
  obtain ⟨⟨hge, hnf⟩, c₀, el₀, fr₀, hh₀, hs₀, hl₀, hv₀, hf₀, hp₀⟩ := h.row ho hx
  have hlt : b' < w'.heap.size := (Array.getElem?_eq_some_iff.1 hh').1
  have e : Evo γ w (γ.move o (g + 1) b' c'.size) w' := {
    n := Nat.le_refl _
    gen := fun j _ => by by_cases hj : j = o <;> simp [Gh.move, hj]; omega
    same := fun j _ he => by
      by_cases hj : j = o
      · simp [Gh.move, hj] at he; omega
      · simp [Gh.move, hj]
    fix := fun j _ h => ⟨h, by
      by_cases hj : j = o
      · exact absurd (hj ▸ h) hnf
      · simp [Gh.move, hj]⟩
    prot := fun b i hp => ⟨hp, f.cell (h.protLt hp)⟩ }
  refine ⟨{ e with os := f.os, tape := f.tape, output := f.output, size := f.size, frame := fun b hb _ => f.block b hb, old := fun j hj _ => by (simp [Gh.move, show j ≠ o by omega]), oldp := fun _ _ _ _ h => h, newp := fun _ _ h => .inl h, new := fun j _ hj => ?_ }, ?_⟩
  · by_cases hjo : j = o
    · exact .inr (by simp [Gh.move, hjo]; exact hb')
    · exact .inl ⟨hj, by simp [Gh.move, hjo]⟩
  · exact {
      n := h.n, base := h.base
      obj := fun j hj => by
        by_cases hjo : j = o
        · subst hjo
          simp only [St.setT, if_true]
          refine ⟨⟨by simp [Gh.move], hnf⟩, c', el', (0, 0), by simp [Gh.move]; exact hh', by simp [Gh.move], hl, fun i hi => (hv i hi).mono e, fun i _ _ => ?_, fun i hp => ?_⟩
          · simp only [Gh.move, if_true, World.frozen?, hh']; simp
          · have hp' : γ.prot b' i := by simpa [Gh.move] using hp
            have := h.protLt hp'
            omega
        · simp only [St.setT, if_neg hjo]
          exact (h.obj j hj).fresh (h.lt j hj) f e (by simp [Gh.move, hjo]) (by simp [Gh.move, hjo]) (by simp [Gh.move, hjo]) Iff.rfl fun _ h => h
      inj := fun i j hi hj hb => by
        by_cases h1 : i = o <;> by_cases h2 : j = o
        · omega
        · have := h.lt j hj
          simp [Gh.move, h1, h2] at hb; omega
        · have := h.lt i hi
          simp [Gh.move, h1, h2] at hb; omega
        · simp [Gh.move, h1, h2] at hb
          exact h.inj i j hi hj hb
      lt := fun j hj => by
        by_cases hjo : j = o
        · simp [Gh.move, hjo]; omega
        · have := h.lt j hj
          have := f.size
          simp [Gh.move, hjo]; omega
      prot := fun b i hp => by rw [f.cell (h.protLt hp)]; exact h.prot b i hp
      glob := fun g cells hg => (h.glob g cells hg).mono e
      ty := fun j t hj ht => by
        by_cases hjo : j = o
        · subst hjo
          have : t' = some t := by simpa [St.setT] using ht
          obtain rfl := ht' t this
          exact ⟨c', (0, 0), by simpa [Gh.move] using hh', .inl rfl⟩
        · have hu : σ.ty j = some t := by simpa [St.setT, hjo] using ht
          obtain ⟨c₁, fr₁, hc, hf⟩ := h.ty j t hj hu
          exact ⟨c₁, fr₁, by simp only [Gh.move, if_neg hjo]; exact (f.block _ (h.lt j hj)).trans hc, hf⟩ }

/-- What is known of a row's type may be forgotten. -/
theorem Rel.setT {o : Nat} {x : Obj} {t : Option TypeId} (h : Rel G γ (σ.set o x) w) (ht : t = none ∨ t = σ.ty o) : Rel G γ (σ.setT o x t) w :=
  { n := h.n, base := h.base, obj := h.obj, inj := h.inj, lt := h.lt, prot := h.prot, glob := h.glob
    ty := fun j u hj hu => by
      by_cases hjo : j = o
      · subst hjo
        have hu' : t = some u := by simpa [St.setT] using hu
        rcases ht with ht | ht
        · rw [ht] at hu'; cases hu'
        · exact h.ty j u hj (ht ▸ hu')
      · have hu' : σ.ty j = some u := by simpa [St.setT, hjo] using hu
        exact h.ty j u hj hu' }

end Go.Proofs.QQ
end
