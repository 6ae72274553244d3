/- A part of the proof that XlatePolicy returns true at every argument: the reader machine and this translation under it. Conditions: those that each theorem bears. -/
import Derived.Test.YtcdjeickpdlbfaaGreatDoorQ01
import Derived.Laws.Entries
import GoSem.Dispatch
section
set_option linter.unusedVariables false
namespace Go.Proofs.QQ
open Go

/-- A type, as far as the machine wants it. -/
inductive TD where
  | int (k : IntKind) | bool | str | ptr (e : TypeId) | sl (e : TypeId) | arr (n : Nat) (e : TypeId)
  | st (fs : List (Nat × TypeId)) | map (k e : TypeId) | fn | ifc | up | other
  deriving Inhabited

structure Tab where
  td : TypeId → TD
  size : TypeId → Nat
  bytes : TypeId → Nat
  zero : TypeId → List Value
  glob : Glob
  meth : TypeId → String → Option FuncId
  peq : TypeId → List AV → Bool
  big : TypeId → Option (List (Nat × AV))

/-- Cells in runs of one value each. -/
def baseCells (segs : List (Nat × AV)) : List AV := segs.flatMap fun s => List.replicate s.1 s.2

def TD.agg : TD → Bool
  | .arr .. | .st _ => true
  | _ => false

/-- What `td` says of a type is so. -/
def TDok (P : Program) (t : TypeId) : TD → Prop
  | .int k => P.underlying t = some (.int k)
  | .bool => P.underlying t = some .bool
  | .str => P.underlying t = some .string
  | .ptr e => P.underlying t = some (.pointer e)
  | .sl e => P.underlying t = some (.slice e)
  | .arr n e => P.underlying t = some (.array n e)
  | .st fs => ∃ fields, P.underlying t = some (.struct fields) ∧ fields.toList.map (fun f => (f.offset, f.type)) = fs
  | .map k e => P.underlying t = some (.map k e)
  | .fn => ∃ a b c, P.underlying t = some (.func a b c)
  | .ifc => ∃ ms, P.underlying t = some (.interface ms)
  | .up => P.underlying t = some .unsafePointer
  | .other => True

def isAggV : Value → Bool
  | .agg _ => true
  | _ => false

/-- A type's row: size in cells, bytes, the zero value's cells. Size 0 stands for what is not known. -/
def SizeOk (P : Program) (T : Tab) (t : TypeId) : Prop :=
  T.size t ≠ 0 → ∃ i z, P.info? t = some i ∧ i.size = T.size t ∧ i.bytes = T.bytes t ∧ i.zero = some z ∧ z.cells.toList = T.zero t ∧ z.cells.size = i.size ∧ isAggV z = (T.td t).agg

/-- Scalars of the model as abstract values; anything else: bad. -/
def ofS : Value → AV
  | .bool b => .bool b
  | .int k n => .int k n
  | .string s => .str s.data.toList
  | .pointer none => .nilp
  | .slice none 0 0 => .nils
  | .map none => .nilm
  | .nilFunc => .nilf
  | .nilIface => .nili
  | _ => .bad
def ofC : Value → AV
  | .agg cs => .agg (cs.toList.map ofS)
  | .tuple cs => .tup (cs.toList.map ofS)
  | v => ofS v

theorem VRel.ofS {γ : Gh} {w : World} (v : Value) : VRel γ w (ofS v) v := by
  unfold QQ.ofS
  split <;> constructor
theorem VRel.ofC {γ : Gh} {w : World} (v : Value) : VRel γ w (ofC v) v := by
  unfold QQ.ofC
  split
  · rename_i cs
    refine .agg _ _ (by simp) fun i h => ?_
    have : i < cs.size := by simpa using h
    simp only [List.getElem_map, Array.getElem_toList, Array.getD, this, dif_pos]
    exact VRel.ofS _
  · rename_i cs
    refine .tup _ _ (by simp) fun i h => ?_
    have : i < cs.size := by simpa using h
    simp only [List.getElem_map, Array.getElem_toList, Array.getD, this, dif_pos]
    exact VRel.ofS _
  · exact VRel.ofS _

abbrev Env := Nat → AV
def upd (e : Env) (t : Nat) (v : AV) : Env := fun s => if Nat.beq s t then v else e s
def undefA : AV := .tup []

theorem VRel.undef {γ : Gh} {w : World} : VRel γ w undefA undef := .tup [] #[] rfl fun i h => absurd h (by simp)

/-- The environment stands for the frame's slots. -/
def EnvRel (γ : Gh) (w : World) (e : Env) (N : Nat) (a : Act) : Prop :=
  a.tmps.size = N ∧ a.defers = [] ∧ ∀ t, t < N → VRel γ w (e t) (a.tmps.getD t Go.undef)

theorem EnvRel.mono {γ γ' : Gh} {w w' : World} {e : Env} {N : Nat} {a : Act} (h : EnvRel γ w e N a) (x : Evo γ w γ' w') : EnvRel γ' w' e N a :=
  ⟨h.1, h.2.1, fun t ht => (h.2.2 t ht).mono x⟩

theorem upd_same (e : Env) (t : Nat) (v : AV) : upd e t v t = v := by simp [upd]
theorem upd_ne (e : Env) {t s : Nat} (v : AV) (h : s ≠ t) : upd e t v s = e s := by
  have : Nat.beq s t = false := by cases hb : Nat.beq s t with
    | false => rfl
    | true => exact absurd (Nat.eq_of_beq_eq_true hb) h
  simp [upd, this]

theorem EnvRel.put {γ : Gh} {w : World} {e : Env} {N : Nat} {a : Act} (h : EnvRel γ w e N a) {d : Nat} (hd : d < N) {v : AV} {cv : Value} (hv : VRel γ w v cv) : EnvRel γ w (upd e d v) N (a.put (some d) cv) := by
  refine ⟨by simp [Act.put, h.1], by simp [Act.put, h.2.1], fun t ht => ?_⟩
  by_cases htd : t = d
  · subst htd
    rw [upd_same]
    have : t < a.tmps.size := by rw [h.1]; exact ht
    simpa [Act.put, Array.getD, this] using hv
  · rw [upd_ne _ _ htd]
    have := h.2.2 t ht
    have hts : t < a.tmps.size := by rw [h.1]; exact ht
    simpa [Act.put, Array.getD, hts, Array.getElem_setIfInBounds_ne _ (fun e => htd e.symm)] using this
theorem EnvRel.put_none {γ : Gh} {w : World} {e : Env} {N : Nat} {a : Act} (h : EnvRel γ w e N a) (cv : Value) : EnvRel γ w e N (a.put none cv) := h

/-- An operand's value. -/
def ev (T : Tab) (e : Env) (N : Nat) : Operand → AV
  | .tmp t => if Nat.blt t N then e t else .bad
  | .const v => ofC v
  | .global g => match T.glob g with | some cells => .ip cells | none => .bad
  | .func f => .fn (.func f) [] []

theorem ev_rel {T : Tab} {γ : Gh} {σ : St} {w : World} {e : Env} {N : Nat} {a : Act} (h : Rel T.glob γ σ w) (he : EnvRel γ w e N a) (x : Operand) : VRel γ w (ev T e N x) (a.eval x) := by
  cases x with
  | tmp t =>
    simp only [ev]
    split
    · rename_i hb
      have ht : t < N := by simpa [Nat.blt_eq] using hb
      have := he.2.2 t ht
      simpa [Act.eval] using this
    · exact .bad _
  | const v => exact VRel.ofC v
  | global g =>
    simp only [ev]
    split
    · rename_i cells hc; exact h.glob g cells hc
    · exact .bad _
  | func f => exact .fn _ _ _ _ _ rfl rfl (fun i h => absurd h (by simp)) (fun i h => absurd h (by simp))

/-- The tables are right for a program. -/
structure TabOk (P : Program) (T : Tab) : Prop where
  td : ∀ t, TDok P t (T.td t)
  size : ∀ t, SizeOk P T t
  meth : ∀ t name f, T.meth t name = some f → ∀ v w, (method (P.types.size + Made.depth) t v name).run P w = .ok (f, v) w
  big : ∀ t segs, T.big t = some segs → (T.zero t).map ofS = baseCells segs


/-! ### Tables as trees, held against the program row by row -/

/-- A type as the program has it. -/
def tdOf (P : Program) (t : TypeId) : TD :=
  match P.underlying t with
  | some (.int k) => .int k
  | some .bool => .bool
  | some .string => .str
  | some (.pointer e) => .ptr e
  | some (.slice e) => .sl e
  | some (.array n e) => .arr n e
  | some (.struct fs) => .st (fs.toList.map fun f => (f.offset, f.type))
  | some (.map k e) => .map k e
  | some (.func ..) => .fn
  | some (.interface _) => .ifc
  | some .unsafePointer => .up
  | _ => .other

theorem tdOf_ok (P : Program) (t : TypeId) : TDok P t (tdOf P t) := by
  unfold tdOf
  split <;> rename_i h <;> simp only [TDok]
  all_goals first
    | exact h
    | exact ⟨_, h, rfl⟩
    | exact ⟨_, _, _, h⟩
    | exact ⟨_, h⟩
    | trivial

/-- A type's row in a table. -/
structure TRow where
  td : TD
  size : Nat
  bytes : Nat
  zero : List Value

inductive Tree where
  | no
  | leaf (t : Nat) (r : TRow)
  | node (k : Nat) (a b : Tree)

noncomputable def Tree.find (d : TRow) (tr : Tree) (t : Nat) : TRow :=
  Tree.rec (motive := fun _ => TRow) d (fun k r => Bool.rec (motive := fun _ => TRow) d r (Nat.beq t k)) (fun k _ _ fa fb => Bool.rec (motive := fun _ => TRow) fa fb (Nat.ble k t)) tr

def noRow : TRow := ⟨.other, 0, 0, []⟩

def rowOk (P : Program) (t : Nat) (r : TRow) : Prop :=
  tdOf P t = r.td ∧ (r.size ≠ 0 → ((P.info? t).bind fun i => i.zero.map fun z => (i.size, i.bytes, z.cells.toList, z.cells.size, isAggV z)) = some (r.size, r.bytes, r.zero, r.size, r.td.agg))

def Tree.Ok (P : Program) : Tree → Prop
  | .no => True
  | .leaf t r => rowOk P t r
  | .node _ a b => a.Ok P ∧ b.Ok P

theorem Tree.find_ok {P : Program} {tr : Tree} (h : tr.Ok P) (t : Nat) : tr.find noRow t = noRow ∨ rowOk P t (tr.find noRow t) := by
  induction tr with
  | no => exact .inl rfl
  | leaf k r =>
    show Bool.rec (motive := fun _ => TRow) noRow r (Nat.beq t k) = noRow ∨ rowOk P t (Bool.rec (motive := fun _ => TRow) noRow r (Nat.beq t k))
    cases hb : Nat.beq t k
    · exact .inl rfl
    · obtain rfl := Nat.eq_of_beq_eq_true hb
      exact .inr h
  | node k a b iha ihb =>
    show Bool.rec (motive := fun _ => TRow) (a.find noRow t) (b.find noRow t) (Nat.ble k t) = noRow ∨ rowOk P t (Bool.rec (motive := fun _ => TRow) (a.find noRow t) (b.find noRow t) (Nat.ble k t))
    cases Nat.ble k t
    · exact iha h.1
    · exact ihb h.2

/-- A table out of a tree. -/
noncomputable def Tree.tab (tr : Tree) (glob : Glob) (meth : TypeId → String → Option FuncId) (peq : TypeId → List AV → Bool) (big : TypeId → Option (List (Nat × AV))) : Tab where
  td t := (tr.find noRow t).td
  size t := (tr.find noRow t).size
  bytes t := (tr.find noRow t).bytes
  zero t := (tr.find noRow t).zero
  glob := glob
  meth := meth
  peq := peq
  big := big

theorem Tree.tab_ok {P : Program} {tr : Tree} {glob : Glob} {meth : TypeId → String → Option FuncId} {peq : TypeId → List AV → Bool} {big : TypeId → Option (List (Nat × AV))} (h : tr.Ok P)
    (hm : ∀ t name f, meth t name = some f → ∀ v w, (method (P.types.size + Made.depth) t v name).run P w = .ok (f, v) w)
    (hb : ∀ t segs, big t = some segs → ((tr.find noRow t).zero).map ofS = baseCells segs) : TabOk P (tr.tab glob meth peq big) where
  td t := by
    show TDok P t (tr.find noRow t).td
    rcases Tree.find_ok h t with h1 | h1
    · rw [h1]; trivial
    · rw [← h1.1]; exact tdOf_ok P t
  size t := by
    intro hne
    have hne' : (tr.find noRow t).size ≠ 0 := hne
    rcases Tree.find_ok h t with h1 | h1
    · rw [h1] at hne'; exact absurd rfl hne'
    · have := h1.2 hne'
      obtain ⟨i, hi, h2⟩ := Option.bind_eq_some_iff.1 this
      obtain ⟨z, hz, h3⟩ := Option.map_eq_some_iff.1 h2
      simp only [Prod.mk.injEq] at h3
      exact ⟨i, z, hi, h3.1, h3.2.1, hz, h3.2.2.1, h3.2.2.2.1.trans h3.1.symm, h3.2.2.2.2⟩
  meth := hm
  big := hb

end Go.Proofs.QQ
end
section
set_option linter.unusedVariables false
namespace Go.Proofs.QQ
open Go

/-- What a call's or an operation's end must be. -/
def Good (T : Tab) (γ : Gh) (base : Nat) (w : World) (K : AV → St → Prop) (cv : Value) (w' : World) : Prop :=
  ∃ v σ' γ', VRel γ' w' v cv ∧ Step γ base w γ' w' ∧ Rel T.glob γ' σ' w' ∧ σ'.base = base ∧ K v σ'

def CallRes (P : Program) (good : Value → World → Prop) : Result Next → Prop
  | .ok (.value cv) w' => good cv w'
  | .ok .skip w' => good undef w'
  | .ok (.enter f args) w' => Calls P f args w' fun e w'' => ∃ cv, e = .returned cv ∧ good cv w''
  | _ => False

/-- The judgement on calls: in every world that the state stands for, the call returns, and what it gives meets R. -/
def ACall (P : Program) (T : Tab) (f : FuncId) (args : List AV) (σ : St) (R : AV → St → Prop) : Prop :=
  ∀ γ w (cargs : Array Value), Rel T.glob γ σ w → cargs.size = args.length → (∀ i (h : i < args.length), VRel γ w args[i] (cargs.getD i undef)) →
    CallRes P (Good T γ σ.base w R) ((callFunc f cargs).run P w)

/-- The cells of a value. -/
def cellsA : AV → Option (List AV)
  | .agg cs => some cs
  | .bad | .tup _ => none
  | v => some [v]

def oneA : AV → Bool
  | .agg _ | .bad | .tup _ => false
  | _ => true

/-- A value out of so many cells. -/
def valA (T : Tab) (t : TypeId) (cells : List AV) (K : AV → Prop) : Prop :=
  match T.td t with
  | .other => False
  | .arr _ _ | .st _ => T.size t ≠ 0 ∧ T.size t ≤ cells.length ∧ K (.agg (cells.take (T.size t)))
  | _ => match cells with
    | v :: _ => K v
    | [] => False

def wLoad (T : Tab) (t : TypeId) (x : AV) (σ : St) (K : AV → St → Prop) : Prop :=
  match x with
  | .ip cells => valA T t cells fun v => K v σ
  | .ptr o g off => ∃ cells wm, o < σ.n ∧ σ.at_ o = .row cells g wm ∧ valA T t (cells.drop off) fun v => K v σ
  | _ => False

/-- cells, from a place on, replaced. -/
def put (cells : List AV) (off : Nat) (vs : List AV) : List AV := cells.take off ++ vs ++ cells.drop (off + vs.length)

def wStore (T : Tab) (t : TypeId) (x v : AV) (σ : St) (K : AV → St → Prop) : Prop :=
  match x, cellsA v with
  | .ptr o g off, some vs => ∃ cells wm, o < σ.n ∧ σ.base ≤ o ∧ σ.at_ o = .row cells g wm ∧ T.size t = vs.length ∧ T.size t ≠ 0 ∧ vs.all oneA = true ∧ wm ≤ off ∧ off + vs.length ≤ cells.length ∧
      K undefA (σ.set o (.row (put cells off vs) g wm))
  | _, _ => False

def wNil (x : AV) (σ : St) (K : AV → St → Prop) : Prop :=
  match x with
  | .ip _ | .ptr .. => K x σ
  | .fn (.func _) _ _ => K x σ
  | _ => False

def zeroA (T : Tab) (t : TypeId) : List AV := (T.zero t).map ofS

/-- The parts of a struct's or an array's literal laid into its cells. -/
def fillA (place : Nat → Option (Nat × Nat)) (cells : List AV) : List (Nat × AV) → Option (List AV)
  | [] => some cells
  | (i, v) :: rest =>
    match place i, cellsA v with
    | some (off, size), some vs => if vs.length = size ∧ off + vs.length ≤ cells.length then fillA place (put cells off vs) rest else none
    | _, _ => none

def wBuild (T : Tab) (t : TypeId) (parts : List (Nat × AV)) (σ : St) (K : AV → St → Prop) : Prop :=
  T.size t ≠ 0 ∧
  match T.td t with
  | .st fs => match fillA (fun i => (fs[i]?).map fun (o, ft) => (o, T.size ft)) (zeroA T t) parts with
    | some cells => (fs.all fun f => T.size f.2 ≠ 0) = true ∧ K (.agg cells) σ
    | none => False
  | .arr _ e => match fillA (fun i => some (i * T.size e, T.size e)) (zeroA T t) parts with
    | some cells => T.size e ≠ 0 ∧ K (.agg cells) σ
    | none => False
  | _ => False

def repA (z : List AV) : Nat → List AV
  | 0 => []
  | n + 1 => z ++ repA z n

/-- A new slice of these cells: never written (mt = false), or an object. -/
def wRow (mt full : Bool) (el : Option TypeId) (len esz : Nat) (cells : List AV) (σ : St) (K : AV → St → Prop) : Prop :=
  match mt with
  | true => K (.ms σ.n 0 0 len esz) (σ.push (.row cells 0 0) el)
  | false => match cells.all pureS with
    | true => K (.sl full len cells) σ
    | false => False

def wBuildSlice (T : Tab) (mt : Bool) (t : TypeId) (len : Nat) (parts : List (Nat × AV)) (σ : St) (K : AV → St → Prop) : Prop :=
  match T.td t with
  | .sl e => T.size e ≠ 0 ∧ len * T.size e ≤ 16777216 ∧
    match fillA (fun i => some (i * T.size e, T.size e)) (repA (zeroA T e) len) parts with
    | some cells => wRow mt true (some e) len (T.size e) cells σ K
    | none => False
  | _ => False

def wFieldAddr (T : Tab) (s : TypeId) (x : AV) (f : Nat) (σ : St) (K : AV → St → Prop) : Prop :=
  match T.td s with
  | .st fs => match fs[f]? with
    | some (off, ft) => T.size ft ≠ 0 ∧ match x with
      | .ip cells => K (.ip (cells.drop off)) σ
      | .ptr o g b => K (.ptr o g (b + off)) σ
      | _ => False
    | none => False
  | _ => False

def wField (T : Tab) (s : TypeId) (x : AV) (f : Nat) (σ : St) (K : AV → St → Prop) : Prop :=
  match T.td s with
  | .st fs => match fs[f]? with
    | some (off, ft) => match x with
      | .agg cells => valA T ft (cells.drop off) fun v => K v σ
      | _ => False
    | none => False
  | _ => False

/-- An index: a whole number below a length. -/
def wIdx (ix : AV) (len : Nat) (K : Nat → Prop) : Prop :=
  match ix with
  | .int _ n => ∃ i : Nat, n = (i : Int) ∧ i < len ∧ K i
  | _ => False

def wIndexAddr (T : Tab) (t : TypeId) (x ix : AV) (σ : St) (K : AV → St → Prop) : Prop :=
  match T.td t, x with
  | .arr n e, .ip cells => T.size e ≠ 0 ∧ wIdx ix n fun i => ∃ xs, (cells.drop (i * T.size e)).take (T.size e) = xs ∧ K (.ip xs) σ
  | .arr n e, .ptr o g off => T.size e ≠ 0 ∧ wIdx ix n fun i => K (.ptr o g (off + i * T.size e)) σ
  | .sl e, .sl _ len cells => T.size e ≠ 0 ∧ wIdx ix len fun i => ∃ xs, (cells.drop (i * T.size e)).take (T.size e) = xs ∧ K (.ip xs) σ
  | .sl e, .ms o g off len esz => T.size e ≠ 0 ∧ wIdx ix len fun i => K (.ptr o g (off + i * T.size e)) σ
  | _, _ => False

def wIndex (T : Tab) (t : TypeId) (x ix : AV) (σ : St) (K : AV → St → Prop) : Prop :=
  match T.td t, x with
  | .arr n e, .agg cells => T.size e ≠ 0 ∧ wIdx ix n fun i => valA T e (cells.drop (i * T.size e)) fun v => K v σ
  | .str, .str s => wIdx ix s.length fun i => ∃ c : UInt8, s[i]? = some c ∧ K (.int .u8 c.toNat) σ
  | _, _ => False

/-- A bound of a slice expression. -/
def wBnd (b : Option AV) (dflt : Nat) (K : Nat → Prop) : Prop :=
  match b with
  | none => K dflt
  | some (.int _ n) => ∃ i : Nat, n = (i : Int) ∧ K i
  | _ => False

def wSlice (T : Tab) (t : TypeId) (x : AV) (lo hi mx : Option AV) (σ : St) (K : AV → St → Prop) : Prop :=
  match T.td t, x, mx with
  | .str, .str s, none => wBnd hi s.length fun h => wBnd lo 0 fun l => l ≤ h ∧ h ≤ s.length ∧ ∃ r, (s.take h).drop l = r ∧ K (.str r) σ
  | .sl e, .sl full len cells, none => T.size e ≠ 0 ∧ wBnd hi len fun h => wBnd lo 0 fun l => l ≤ h ∧ h ≤ len ∧ ∃ r, (cells.take (h * T.size e)).drop (l * T.size e) = r ∧ K (.sl (full && Nat.beq h len) (h - l) r) σ
  | .sl e, .sl full len cells, some m => T.size e ≠ 0 ∧ wBnd (some m) 0 fun m => wBnd hi 0 fun h => wBnd lo 0 fun l => hi.isSome = true ∧ l ≤ h ∧ h ≤ m ∧ m ≤ len ∧
      ∃ r, (cells.take (h * T.size e)).drop (l * T.size e) = r ∧ K (.sl (Nat.beq h m) (h - l) r) σ
  | .sl e, .nils, none => T.size e ≠ 0 ∧ wBnd hi 0 fun h => wBnd lo 0 fun l => l = 0 ∧ h = 0 ∧ K .nils σ
  | .sl e, .ms o g off len esz, none => T.size e ≠ 0 ∧ T.size e = esz ∧ wBnd hi len fun h => wBnd lo 0 fun l => l ≤ h ∧ h ≤ len ∧
      (((l < len ∨ l = 0) ∧ K (.ms o g (off + l * esz) (h - l) esz) σ) ∨ (l = len ∧ 0 < l ∧ (∃ cells wm, o < σ.n ∧ σ.at_ o = .row cells g wm) ∧ K (.sl false 0 []) σ))
  | .sl e, .ms o g off len esz, some m => T.size e ≠ 0 ∧ T.size e = esz ∧ wBnd (some m) 0 fun m => wBnd hi 0 fun h => wBnd lo 0 fun l => hi.isSome = true ∧ l ≤ h ∧ h ≤ m ∧ m ≤ len ∧ (l < m ∨ l = 0) ∧ K (.ms o g (off + l * esz) (h - l) esz) σ
  | .arr n e, .ip cells, none => T.size e ≠ 0 ∧ wBnd hi n fun h => wBnd lo 0 fun l => l ≤ h ∧ h ≤ n ∧ ∃ r, (cells.take (h * T.size e)).drop (l * T.size e) = r ∧ K (.sl (Nat.beq h n) (h - l) r) σ
  | .arr n e, .ptr o g off, none => T.size e ≠ 0 ∧ wBnd hi n fun h => wBnd lo 0 fun l => l ≤ h ∧ h ≤ n ∧ (l < n ∨ l = 0) ∧
      ∃ cells wm, o < σ.n ∧ σ.at_ o = .row cells g wm ∧ off + n * T.size e ≤ cells.length ∧ K (.ms o g (off + l * T.size e) (h - l) (T.size e)) σ
  | _, _, _ => False

def intBin (op : BinOp) (k : IntKind) (a b : Int) : Option AV :=
  match op with
  | .add => some (.int k (k.wrap (a + b)))
  | .sub => some (.int k (k.wrap (a - b)))
  | .mul => some (.int k (k.wrap (a * b)))
  | .and => some (.int k (k.wrap (((a % 2 ^ k.bits).toNat &&& (b % 2 ^ k.bits).toNat : Nat) : Int)))
  | .or => some (.int k (k.wrap (((a % 2 ^ k.bits).toNat ||| (b % 2 ^ k.bits).toNat : Nat) : Int)))
  | .xor => some (.int k (k.wrap (((a % 2 ^ k.bits).toNat ^^^ (b % 2 ^ k.bits).toNat : Nat) : Int)))
  | .andNot => some (.int k (k.wrap (((a % 2 ^ k.bits).toNat &&& (2 ^ k.bits - 1 - (b % 2 ^ k.bits).toNat) : Nat) : Int)))
  | .eql => some (.bool (a == b))
  | .neq => some (.bool (a != b))
  | .lss => some (.bool (a < b))
  | .leq => some (.bool (a ≤ b))
  | .gtr => some (.bool (a > b))
  | .geq => some (.bool (a ≥ b))
  | _ => none

def sameInt : IntKind → IntKind → Bool
  | .i8, .i8 | .i16, .i16 | .i32, .i32 | .i64, .i64 | .u8, .u8 | .u16, .u16 | .u32, .u32 | .u64, .u64 => true
  | _, _ => false

def strBin (op : BinOp) (a b : List UInt8) : Option AV :=
  match op with
  | .eql => some (.bool (a == b))
  | .neq => some (.bool !(a == b))
  | .lss => some (.bool (Op.bytesLess a b))
  | .leq => some (.bool (Op.bytesLess a b || a == b))
  | .gtr => some (.bool !(Op.bytesLess a b || a == b))
  | .geq => some (.bool !(Op.bytesLess a b))
  | _ => none

/-- Is it nil? -/
def nilA : TD → AV → AV → Option Bool
  | .ptr _, .nilp, .nilp => some true
  | .ptr _, .ptr .., .nilp | .ptr _, .ip _, .nilp => some false
  | .sl _, .nils, .nils => some true
  | .sl _, .sl .., .nils | .sl _, .ms .., .nils => some false
  | .fn, .nilf, .nilf => some true
  | .fn, .fn .., .nilf => some false
  | .map _ _, .nilm, .nilm => some true
  | .map _ _, .mp _, .nilm => some false
  | _, _, _ => none

/-- Cells that are plain: whole numbers, bools, texts: whether they are the same. -/
def eqS : AV → AV → Option Bool
  | .int k a, .int k' b => if sameInt k k' then some (a == b) else none
  | .bool a, .bool b => some (a == b)
  | .str a, .str b => some (a == b)
  | _, _ => none
def eqL : List AV → List AV → Option Bool
  | [], [] => some true
  | x :: xs, y :: ys => match eqS x y, eqL xs ys with
    | some a, some b => some (a && b)
    | _, _ => none
  | _, _ => none

def wBin (T : Tab) (op : BinOp) (t : TypeId) (x y : AV) (σ : St) (K : AV → St → Prop) : Prop :=
  match x, y with
  | .int k a, .int k' b => match op with
    | .shl => 0 ≤ b ∧ K (.int k (k.wrap (a * 2 ^ (min b.toNat k.bits)))) σ
    | .shr => 0 ≤ b ∧ K (.int k (a.fdiv (2 ^ (min b.toNat k.bits)))) σ
    | .quo => sameInt k k' = true ∧ b ≠ 0 ∧ K (.int k (k.wrap (a.tdiv b))) σ
    | .rem => sameInt k k' = true ∧ b ≠ 0 ∧ K (.int k (a.tmod b)) σ
    | _ => match sameInt k k', intBin op k a b with
      | true, some v => K v σ
      | _, _ => False
  | .str a, .str b => match op with
    | .add => a.length + b.length ≤ 4611686018427387904 ∧ K (.str (a ++ b)) σ
    | _ => match strBin op a b with
      | some v => K v σ
      | none => False
  | .bool a, .bool b => match T.td t, op with
    | .bool, .eql => K (.bool (a == b)) σ
    | .bool, .neq => K (.bool (!(a == b))) σ
    | _, _ => False
  | .agg xs, .agg ys => (T.peq t xs && T.peq t ys) = true ∧ match eqL xs ys, op with
    | some b, .eql => K (.bool b) σ
    | some b, .neq => K (.bool !b) σ
    | _, _ => False
  | .ptr o g off, .ptr o' g' off' => (o = o' ∧ g = g' ∧ off = off') ∧ (∃ e, T.td t = .ptr e ∧ T.size e ≠ 0) ∧ (∃ cells wm, o < σ.n ∧ σ.at_ o = .row cells g wm) ∧
    match op with
    | .eql => K (.bool true) σ
    | .neq => K (.bool false) σ
    | _ => False
  | x, y => match nilA (T.td t) x y, op with
    | some b, .eql => K (.bool b) σ
    | some b, .neq => K (.bool !b) σ
    | _, _ => False

def wUn (op : UnOp) (x : AV) (σ : St) (K : AV → St → Prop) : Prop :=
  match op, x with
  | .neg, .int k n => K (.int k (k.wrap (0 - n))) σ
  | .xor, .int k n => K (.int k (k.wrap (((n % 2 ^ k.bits).toNat ^^^ (2 ^ k.bits - 1) : Nat) : Int))) σ
  | .not, .bool b => K (.bool !b) σ
  | _, _ => False

def byteA (c : UInt8) : AV := .int .u8 c.toNat

def wConv (T : Tab) (mt : Bool) (src dst : TypeId) (x : AV) (σ : St) (K : AV → St → Prop) : Prop :=
  T.td src ≠ .other ∧
  match T.td dst, x with
  | .int k, .int _ n => K (.int k (k.wrap n)) σ
  | .str, .str s => T.td src = .str ∧ K (.str s) σ
  | .sl e, .str s => T.td src = .str ∧ T.td e = .int .u8 ∧ T.size e = 1 ∧ (match mt with | true => K (.ms σ.n 0 0 s.length 1) (σ.push (.row (s.map byteA) 0 0) none) | false => K (.sl false s.length (s.map byteA)) σ)
  | .str, .nils => (∃ e, T.td src = .sl e ∧ T.td e = .int .u8) ∧ K (.str []) σ
  | .str, .sl _ len cells => (∃ e, T.td src = .sl e ∧ T.td e = .int .u8) ∧ ∃ s : List UInt8, s.length = len ∧ cells = s.map byteA ∧ K (.str s) σ
  | .str, .ms o g off len _ => (∃ e, T.td src = .sl e ∧ T.td e = .int .u8) ∧ ∃ cells wm, o < σ.n ∧ σ.at_ o = .row cells g wm ∧ ∃ s : List UInt8, s.length = len ∧ (cells.drop off).take len = s.map byteA ∧ K (.str s) σ
  | .up, .ptr o g off => (∃ e, T.td src = .ptr e ∧ T.size e ≠ 0) ∧ (∃ cells wm, o < σ.n ∧ σ.at_ o = .row cells g wm ∧ off < cells.length) ∧ K (.ptr o g off) σ
  | .ptr e, .ptr o g off => T.td src = .up ∧ T.size e ≠ 0 ∧ off = 0 ∧ σ.ty o = some e ∧ (∃ cells wm, o < σ.n ∧ σ.at_ o = .row cells g wm ∧ T.size e ≤ cells.length) ∧ K (.ptr o g off) σ
  | _, _ => False

def lenA (σ : St) : TD → AV → Option Nat
  | .str, .str s => some s.length
  | .arr n _, _ => some n
  | .sl _, .nils => some 0
  | .sl _, .sl _ n _ => some n
  | .sl _, .ms _ _ _ n _ => some n
  | .map _ _, .nilm => some 0
  | _, _ => none

/-- What an append's, a copy's source gives: its cells. -/
def srcA (esz : Nat) (x : AV) (σ : St) (K : Nat → List AV → Prop) : Prop :=
  match x with
  | .nils => K 0 []
  | .sl _ n cells => ∃ r, cells.take (n * esz) = r ∧ r.length = n * esz ∧ K n r
  | .str s => esz = 1 ∧ K s.length (s.map byteA)
  | .ms o g off n esz' => esz' = esz ∧ ∃ cells wm r, o < σ.n ∧ σ.at_ o = .row cells g wm ∧ (cells.drop off).take (n * esz) = r ∧ r.length = n * esz ∧ K n r
  | _ => False

def isSl : AV → Bool
  | .nils | .sl .. | .ms .. => true
  | _ => false

/-- A row's type behind an append. -/
def keepTy (σ : St) (o : Nat) (e : TypeId) : Option TypeId :=
  match σ.ty o with
  | some e' => match Nat.beq e' e with
    | true => some e
    | false => none
  | none => none

theorem keepTy_some {σ : St} {o : Nat} {e u : TypeId} (h : keepTy σ o e = some u) : u = e := by
  unfold keepTy at h
  split at h
  · split at h
    · cases h; rfl
    · cases h
  · cases h
theorem keepTy_or (σ : St) (o : Nat) (e : TypeId) : keepTy σ o e = none ∨ keepTy σ o e = σ.ty o := by
  unfold keepTy
  split
  · rename_i e' he
    split
    · rename_i hb
      obtain rfl := Nat.eq_of_beq_eq_true hb
      exact .inr he.symm
    · exact .inl rfl
  · exact .inl rfl

/-- append: of nil, or a slice without spare room: a new object; of an object's row: that row goes on. -/
def wAppend (T : Tab) (t : TypeId) (s x : AV) (σ : St) (K : AV → St → Prop) : Prop :=
  match T.td t with
  | .sl e => T.size e ≠ 0 ∧ T.bytes e ≤ 4096 ∧ srcA (T.size e) x σ fun n xs => (xs.all oneA = true) ∧
    ((n = 0 ∧ isSl s = true ∧ K s σ) ∨ (0 < n ∧ match s with
      | .nils => n ≤ 1073741824 ∧ K (.ms σ.n 0 0 n (T.size e)) (σ.push (.row xs 0 0) (some e))
      | .sl true len cells => len + n ≤ 1073741824 ∧ ∃ r, cells.take (len * T.size e) = r ∧ r.length = len * T.size e ∧ K (.ms σ.n 0 0 (len + n) (T.size e)) (σ.push (.row (r ++ xs) 0 0) (some e))
      | .ms o g off len esz => off = 0 ∧ esz = T.size e ∧ len + n ≤ 1073741824 ∧ ∃ cells wm, o < σ.n ∧ σ.base ≤ o ∧ σ.at_ o = .row cells g wm ∧ wm ≤ len * esz ∧ len * esz ≤ cells.length ∧
          K (.ms o (g + 1) 0 (len + n) esz) (σ.setT o (.row (cells.take (len * esz) ++ xs) (g + 1) wm) (keepTy σ o e))
      | _ => False))
  | _ => False

def wLess (ismax : Bool) : List AV → Option AV
  | .int k a :: .int k' b :: [] => if sameInt k k' then some (.int k (if ismax then (if b > a then b else a) else (if b < a then b else a))) else none
  | _ => none

def wMakeSlice (T : Tab) (t : TypeId) (len cap : AV) (σ : St) (K : AV → St → Prop) : Prop :=
  match T.td t, len, cap with
  | .sl e, .int _ n, .int _ c => T.size e ≠ 0 ∧ T.bytes e ≤ 4096 ∧ ∃ l k : Nat, n = (l : Int) ∧ c = (k : Int) ∧ l ≤ k ∧ k * T.size e ≤ 16777216 ∧ K (.ms σ.n 0 0 l (T.size e)) (σ.push (.row (repA (zeroA T e) k) 0 0) (some e))
  | _, _, _ => False

/-- Keys that are numbers or texts. -/
def keyA : TD → AV → Bool
  | .int kd, .int k _ => sameInt kd k
  | .str, .str _ => true
  | _, _ => false

def findA (k : AV) : List (AV × AV) → Nat → Option (Option (Nat × AV))
  | [], _ => some none
  | (k', v) :: r, i => match eqS k k' with
    | some true => some (some (i, v))
    | some false => findA k r (i + 1)
    | none => none

def wFound (T : Tab) (et : TypeId) (commaOk : Bool) (r : Option (Nat × AV)) (σ : St) (K : AV → St → Prop) : Prop :=
  match r with
  | some (_, v) => K (match commaOk with | true => .tup [v, .bool true] | false => v) σ
  | none => T.size et ≠ 0 ∧ valA T et (zeroA T et) fun z => K (match commaOk with | true => .tup [z, .bool false] | false => z) σ

def wLookup (T : Tab) (t : TypeId) (m k : AV) (commaOk : Bool) (σ : St) (K : AV → St → Prop) : Prop :=
  match T.td t with
  | .map kt et => keyA (T.td kt) k = true ∧ match m with
    | .nilm => wFound T et commaOk none σ K
    | .mp o => ∃ es, o < σ.n ∧ σ.at_ o = .map es ∧ match findA k es 0 with
      | some r => wFound T et commaOk r σ K
      | none => False
    | _ => False
  | _ => False

def wMapUpd (T : Tab) (t : TypeId) (m k v : AV) (σ : St) (K : AV → St → Prop) : Prop :=
  match T.td t, m with
  | .map kt et, .mp o => keyA (T.td kt) k = true ∧ ∃ es, o < σ.n ∧ σ.base ≤ o ∧ σ.at_ o = .map es ∧ match findA k es 0 with
    | some (some (i, _)) => K undefA (σ.set o (.map (es.set i (k, v))))
    | some none => K undefA (σ.set o (.map (es ++ [(k, v)])))
    | none => False
  | _, _ => False

def wCopy (T : Tab) (t : TypeId) (d x : AV) (σ : St) (K : AV → St → Prop) : Prop :=
  match T.td t with
  | .sl e => T.size e ≠ 0 ∧ srcA (T.size e) x σ fun n xs => match d with
    | .nils => K (.int .i64 0) σ
    | .ms o g off len esz => esz = T.size e ∧ ∃ k, k = min n len ∧ ((k = 0 ∧ K (.int .i64 0) σ) ∨ (0 < k ∧ xs.all oneA = true ∧ ∃ cells wm r, o < σ.n ∧ σ.base ≤ o ∧ σ.at_ o = .row cells g wm ∧ wm ≤ off ∧ off + k * esz ≤ cells.length ∧
        xs.take (k * esz) = r ∧ K (.int .i64 (k : Int)) (σ.set o (.row (put cells off r) g wm))))
    | _ => False
  | _ => False

/-- A text of bytes that are never written again. -/
def wUnsafeString (T : Tab) (pt : TypeId) (p n : AV) (σ : St) (K : AV → St → Prop) : Prop :=
  match p, n with
  | .ptr o g off, .int .i64 n => ∃ k : Nat, n = (k : Int) ∧ (k : Int) ≤ 9223372036854775807 ∧ ((k = 0 ∧ K (.str []) σ) ∨ (0 < k ∧ off = 0 ∧ ∃ cells wm s e, o < σ.n ∧ σ.base ≤ o ∧ σ.at_ o = .row cells g wm ∧ σ.ty o = some e ∧ T.td pt = .ptr e ∧ T.size e = 1 ∧
      cells.take k = List.map byteA s ∧ s.length = k ∧ K (.str s) (σ.set o (.row cells g (max wm k)))))
  | .nilp, .int .i64 n => n = 0 ∧ K (.str []) σ
  | _, _ => False

def wBuiltin (T : Tab) (b : Builtin) (ts : List TypeId) (args : List AV) (σ : St) (K : AV → St → Prop) : Prop :=
  match b, ts, args with
  | .len, t :: _, .mp o :: _ => (∃ k e, T.td t = .map k e) ∧ ∃ es, o < σ.n ∧ σ.at_ o = .map es ∧ K (.int .i64 (es.length : Int)) σ
  | .cap, t :: _, .nils :: _ => (∃ e, T.td t = .sl e) ∧ K (.int .i64 0) σ
  | .copy, t :: _, d :: x :: _ => wCopy T t d x σ K
  | .unsafeSliceData, _, .nils :: [] => K .nilp σ
  | .unsafeSliceData, _, .ms o g off len _ :: [] => 0 < len ∧ K (.ptr o g off) σ
  | .unsafeString, pt :: _, p :: n :: [] => wUnsafeString T pt p n σ K
  | .len, t :: _, x :: _ => match lenA σ (T.td t) x with
    | some n => K (.int .i64 (n : Int)) σ
    | none => False
  | .append, t :: u :: _, s :: x :: _ => (match T.td u with | .sl _ | .str => True | _ => False) ∧ wAppend T t s x σ K
  | .max, _, l => match wLess true l with
    | some v => K v σ
    | none => False
  | .min, _, l => match wLess false l with
    | some v => K v σ
    | none => False
  | _, _, _ => False

def wCall (P : Program) (T : Tab) (c : Call) (e : Env) (N : Nat) (σ : St) (K : AV → St → Prop) : Prop :=
  match c.callee with
  | .value f => match ev T e N f with
    | .fn (.func g) first captured => ACall P T g (first ++ c.args.toList.map (ev T e N) ++ captured) σ K
    | _ => False
  | .invoke r name => match ev T e N r with
    | .ifc t v => match T.meth t name with
      | some g => ACall P T g (v :: c.args.toList.map (ev T e N)) σ K
      | none => False
    | _ => False
  | .builtin b => wBuiltin T b c.argTypes.toList (c.args.toList.map (ev T e N)) σ K

/-- An operation, `mt` telling whether the row or variable that it makes is written later. -/
def wOp (P : Program) (T : Tab) (mt : Bool) (op : Op) (e : Env) (N : Nat) (σ : St) (K : AV → St → Prop) : Prop :=
  match op with
  | .move x | .assign x => K (ev T e N x) σ
  | .pick c a b => match ev T e N c with
    | .bool true => K (ev T e N a) σ
    | .bool false => K (ev T e N b) σ
    | _ => False
  | .alloc t => T.size t ≠ 0 ∧ K (.ptr σ.n 0 0) (σ.push (.row (zeroA T t) 0 0) (some t))
  | .box t x => match cellsA (ev T e N x) with
    | some cells => match mt with
      | true => K (.ptr σ.n 0 0) (σ.push (.row cells 0 0) (some t))
      | false => match cells.all pureS with
        | true => K (.ip cells) σ
        | false => False
    | none => False
  | .build t parts => wBuild T t (parts.toList.map fun p => (p.1, ev T e N p.2)) σ K
  | .buildSlice t n parts => wBuildSlice T mt t n (parts.toList.map fun p => (p.1, ev T e N p.2)) σ K
  | .load t a => wLoad T t (ev T e N a) σ K
  | .store t a x => wStore T t (ev T e N a) (ev T e N x) σ K
  | .nilCheck x => wNil (ev T e N x) σ K
  | .binOp op t x y _ => wBin T op t (ev T e N x) (ev T e N y) σ K
  | .unOp op _ x => wUn op (ev T e N x) σ K
  | .convert s d x => wConv T mt s d (ev T e N x) σ K
  | .makeInterface t x => (match T.td t with | .ifc | .other => False | _ => True) ∧ K (.ifc t (ev T e N x)) σ
  | .makeFunc f first captured => K (.fn f (first.toList.map (ev T e N)) (captured.toList.map (ev T e N))) σ
  | .slice t x lo hi mx => wSlice T t (ev T e N x) (lo.map (ev T e N)) (hi.map (ev T e N)) (mx.map (ev T e N)) σ K
  | .fieldAddr s x f => wFieldAddr T s (ev T e N x) f σ K
  | .field s x f => wField T s (ev T e N x) f σ K
  | .indexAddr t x i => wIndexAddr T t (ev T e N x) (ev T e N i) σ K
  | .index t x i => wIndex T t (ev T e N x) (ev T e N i) σ K
  | .extract x i => match ev T e N x with
    | .tup vs => match vs[i]? with
      | some v => K v σ
      | none => False
    | _ => False
  | .call c => wCall P T c e N σ K
  | .makeSlice t l c => wMakeSlice T t (ev T e N l) (ev T e N c) σ K
  | .makeMap t none => K (.mp σ.n) (σ.push (.map []) none)
  | .lookup t m k commaOk => wLookup T t (ev T e N m) (ev T e N k) commaOk σ K
  | .mapUpdate t m k v => wMapUpd T t (ev T e N m) (ev T e N k) (ev T e N v) σ K
  | _ => False

end Go.Proofs.QQ
end
