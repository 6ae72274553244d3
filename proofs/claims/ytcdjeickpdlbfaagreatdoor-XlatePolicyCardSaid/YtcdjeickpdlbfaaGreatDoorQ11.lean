/- A part of the proof that XlatePolicy returns true at every argument: the reader machine and this translation under it. Conditions: those that each theorem bears. -/
import Derived.Test.YtcdjeickpdlbfaaGreatDoorQ10
section
set_option linter.unusedVariables false
set_option linter.unusedSimpArgs false
namespace Go.Proofs.QQ
open Go

/-- A tree of things by numbers. -/
inductive PT (α : Type) where
  | nil
  | node (v : α) (l r : PT α)

def PT.full {α : Type} (d : α) : Nat → PT α
  | 0 => .nil
  | n + 1 => .node d (PT.full d n) (PT.full d n)

noncomputable def PT.get {α : Type} (d : α) (t : PT α) : Nat → α :=
  PT.rec (motive := fun _ => Nat → α) (fun _ => d) (fun v _ _ gl gr i => Nat.rec (motive := fun _ => α) v (fun k _ => Nat.rec (motive := fun _ => α) (gl (Nat.div k 2)) (fun _ _ => gr (Nat.div k 2)) (Nat.mod k 2)) i) t

section
variable {R : Type} (bot : R)

/-- A place in a tree laid anew. -/
noncomputable def PT.setK {α : Type} (t : PT α) : Nat → α → (PT α → R) → R :=
  PT.rec (motive := fun _ => Nat → α → (PT α → R) → R) (fun _ _ _ => bot)
    (fun v l r sl sr i x K => Nat.rec (motive := fun _ => R) (K (.node x l r))
      (fun k _ => Nat.rec (motive := fun _ => R) (sl (Nat.div k 2) x fun l' => K (.node v l' r)) (fun _ _ => sr (Nat.div k 2) x fun r' => K (.node v l r')) (Nat.mod k 2)) i) t

/-- Numbers and values seen to their ends. -/
noncomputable def fNat (n : Nat) (K : Nat → R) : R := Nat.rec (motive := fun _ => R) (K 0) (fun m _ => K (Nat.succ m)) n
noncomputable def fInt (n : Int) (K : Int → R) : R := Int.rec (motive := fun _ => R) (fun m => fNat m fun m => K (.ofNat m)) (fun m => fNat m fun m => K (.negSucc m)) n
noncomputable def fList {α : Type} (l : List α) : (List α → R) → R := List.rec (motive := fun _ => (List α → R) → R) (fun K => K []) (fun a _ ih K => ih fun l => K (a :: l)) l
noncomputable def fVal (v : AV) (K : AV → R) : R :=
  match v with
  | .bool b => match b with | true => K (.bool true) | false => K (.bool false)
  | .int k n => fInt n fun n => K (.int k n)
  | .str s => fList s fun s => K (.str s)
  | .nilp => K .nilp
  | .ptr o g off => fNat o fun o => fNat g fun g => fNat off fun off => K (.ptr o g off)
  | .ip c => K (.ip c)
  | .nils => K .nils
  | .sl f n c => fNat n fun n => K (.sl f n c)
  | .ms o g off n z => fNat o fun o => fNat g fun g => fNat off fun off => fNat n fun n => K (.ms o g off n z)
  | .nilm => K .nilm | .mp o => K (.mp o) | .fn f a b => K (.fn f a b) | .nilf => K .nilf | .ifc t v => K (.ifc t v)
  | .nili => K .nili | .agg c => K (.agg c) | .tup vs => K (.tup vs) | .it o => K (.it o) | .bad => K .bad
end

theorem fNat_eq {R : Type} (n : Nat) (K : Nat → R) : fNat n K = K n := by cases n <;> rfl
theorem fInt_eq {R : Type} (n : Int) (K : Int → R) : fInt n K = K n := by cases n <;> simp [fInt, fNat_eq]
theorem fList_eq {R α : Type} (l : List α) (K : List α → R) : fList l K = K l := by
  induction l generalizing K with
  | nil => rfl
  | cons a l ih => exact ih _
theorem fVal_eq {R : Type} (v : AV) (K : AV → R) : fVal v K = K v := by
  cases v <;> simp [fVal, fNat_eq, fInt_eq, fList_eq]
  case bool b => cases b <;> rfl

theorem PT.setK_nil {R α : Type} (bot : R) (i : Nat) (x : α) (K : PT α → R) : PT.setK bot PT.nil i x K = bot := rfl
theorem PT.setK_zero {R α : Type} (bot : R) (v : α) (l r : PT α) (x : α) (K : PT α → R) : PT.setK bot (PT.node v l r) 0 x K = K (.node x l r) := rfl
theorem PT.setK_succ {R α : Type} (bot : R) (v : α) (l r : PT α) (k : Nat) (x : α) (K : PT α → R) :
    PT.setK bot (PT.node v l r) (k + 1) x K = match k % 2 with | 0 => l.setK bot (k / 2) x fun l' => K (.node v l' r) | _ + 1 => r.setK bot (k / 2) x fun r' => K (.node v l r') := by
  show Nat.rec (motive := fun _ => R) _ _ (k % 2) = _
  cases k % 2 <;> rfl
theorem PT.get_nil {α : Type} (d : α) (i : Nat) : PT.get d .nil i = d := rfl
theorem PT.get_zero {α : Type} (d v : α) (l r : PT α) : PT.get d (.node v l r) 0 = v := rfl
theorem PT.get_succ {α : Type} (d v : α) (l r : PT α) (k : Nat) : PT.get d (.node v l r) (k + 1) = match k % 2 with | 0 => l.get d (k / 2) | _ + 1 => r.get d (k / 2) := by
  show Nat.rec (motive := fun _ => α) _ _ (k % 2) = _
  cases k % 2 <;> rfl

theorem PT.setK_get {α : Type} (d : α) {t : PT α} {i : Nat} {x : α} {K : PT α → Prop} (h : t.setK False i x K) : ∃ t', K t' ∧ ∀ j, t'.get d j = if j = i then x else t.get d j := by
  induction t generalizing i K with
  | nil => exact h.elim
  | node v l r ihl ihr =>
    cases i with
    | zero =>
      refine ⟨_, h, fun j => ?_⟩
      cases j
      · rfl
      · rw [PT.get_succ, PT.get_succ]; simp
    | succ k =>
      rw [PT.setK_succ] at h
      split at h
      · rename_i hk
        obtain ⟨l', h1, h2⟩ := ihl h
        refine ⟨_, h1, fun j => ?_⟩
        cases j with
        | zero => rfl
        | succ j =>
          rw [PT.get_succ, PT.get_succ]
          split
          · rename_i hj
            rw [h2]
            have : (j / 2 = k / 2) ↔ (j + 1 = k + 1) := by omega
            simp only [this]
          · rename_i m hj
            rw [if_neg (by omega)]
      · rename_i m hk
        obtain ⟨r', h1, h2⟩ := ihr h
        refine ⟨_, h1, fun j => ?_⟩
        cases j with
        | zero => rfl
        | succ j =>
          rw [PT.get_succ, PT.get_succ]
          split
          · rename_i hj
            rw [if_neg (by omega)]
          · rename_i m' hj
            rw [h2]
            have : (j / 2 = k / 2) ↔ (j + 1 = k + 1) := by omega
            simp only [this]

theorem PT.full_get {α : Type} (d : α) (n i : Nat) : (PT.full d n).get d i = d := by
  induction n generalizing i with
  | zero => rfl
  | succ n ih =>
    cases i with
    | zero => rfl
    | succ k => simp only [PT.full]; rw [PT.get_succ]; split <;> exact ih _

/-- A great row: runs of cells, and what was written since, the last first. -/
def bigCells (segs ps : List (Nat × AV)) : List AV := ps.foldr (fun p l => l.set p.1 p.2) (baseCells segs)

/-- An object, as the machine has it. -/
inductive XO where
  | o (x : Obj) (t : Option TypeId)
  | big (segs ps : List (Nat × AV)) (g wm : Nat) (t : Option TypeId)

def XO.obj : XO → Obj
  | .o x _ => x
  | .big segs ps g wm _ => .row (bigCells segs ps) g wm
def XO.ty : XO → Option TypeId
  | .o _ t => t
  | .big _ _ _ _ t => t

/-- A state. -/
structure X where
  n : Nat
  base : Nat
  objs : PT XO

def noObj : XO := .o (.iter [] 0) none
noncomputable def X.st (x : X) : St := ⟨x.n, fun j => (x.objs.get noObj j).obj, x.base, fun j => (x.objs.get noObj j).ty⟩

abbrev XE := PT AV
noncomputable def XE.env (e : XE) : Env := fun t => e.get .bad t

section
variable {R : Type} (bot : R)

noncomputable def X.pushO (x : X) (o : XO) (K : Nat → X → R) : R := x.objs.setK bot x.n o fun t => fNat (Nat.succ x.n) fun m => K x.n ⟨m, x.base, t⟩
noncomputable def X.setO (x : X) (i : Nat) (o : XO) (K : X → R) : R := x.objs.setK bot i o fun t => K ⟨x.n, x.base, t⟩
noncomputable def X.pushK (x : X) (o : Obj) (ty : Option TypeId) (K : Nat → X → R) : R := x.pushO bot (.o o ty) K
noncomputable def X.setK (x : X) (i : Nat) (o : Obj) (ty : Option TypeId) (K : X → R) : R := x.setO bot i (.o o ty) K

end

theorem X.pushO_st {x : X} {o : XO} {K : Nat → X → Prop} (h : x.pushO False o K) : ∃ x', K x.st.n x' ∧ x'.st = x.st.push o.obj o.ty := by
  obtain ⟨t, h1, h2⟩ := PT.setK_get noObj h
  rw [fNat_eq] at h1
  refine ⟨_, h1, ?_⟩
  simp only [X.st, St.push, h2]
  congr 1 <;> (funext j; split <;> simp_all)
theorem X.setO_st {x : X} {i : Nat} {o : XO} {K : X → Prop} (h : x.setO False i o K) : ∃ x', K x' ∧ x'.st = x.st.setT i o.obj o.ty := by
  obtain ⟨t, h1, h2⟩ := PT.setK_get noObj h
  refine ⟨_, h1, ?_⟩
  simp only [X.st, St.setT, h2]
  congr 1 <;> (funext j; split <;> simp_all)
theorem X.pushK_st {x : X} {o : Obj} {ty : Option TypeId} {K : Nat → X → Prop} (h : x.pushK False o ty K) : ∃ x', K x.st.n x' ∧ x'.st = x.st.push o ty := X.pushO_st h
theorem X.setK_st {x : X} {i : Nat} {o : Obj} {ty : Option TypeId} {K : X → Prop} (h : x.setK False i o ty K) : ∃ x', K x' ∧ x'.st = x.st.setT i o ty := X.setO_st h
theorem St.set_setT (σ : St) (o : Nat) (x : Obj) : σ.set o x = σ.setT o x (σ.ty o) := by
  simp only [St.set, St.setT]
  congr 1
  funext j
  split
  · rename_i h; rw [h]
  · rfl

end Go.Proofs.QQ
end
section
set_option linter.unusedVariables false
set_option linter.unusedSimpArgs false
namespace Go.Proofs.QQ
open Go

section
variable {R : Type} (bot : R) (T : Tab)

noncomputable def xVal (t : TypeId) (cells : List AV) (K : AV → R) : R :=
  match T.td t with
  | .other => bot
  | .arr _ _ | .st _ => match T.size t with
    | 0 => bot
    | n + 1 => match Nat.ble (Nat.succ n) cells.length with
      | true => fList (cells.take (Nat.succ n)) fun cs => K (.agg cs)
      | false => bot
  | _ => match cells with
    | v :: _ => K v
    | [] => bot

noncomputable def xRow (o g : Nat) (x : X) (K : List AV → Nat → R) : R :=
  match Nat.blt o x.n with
  | true => match x.objs.get noObj o with
    | .o (.row cells g' wm) _ => match Nat.beq g g' with
      | true => K cells wm
      | false => bot
    | _ => bot
  | false => bot

/-- A row, small or great. -/
noncomputable def xRow2 (o g : Nat) (x : X) (K : List AV → Nat → R) (K2 : List (Nat × AV) → List (Nat × AV) → Nat → Option TypeId → R) : R :=
  match Nat.blt o x.n with
  | true => match x.objs.get noObj o with
    | .o (.row cells g' wm) _ => match Nat.beq g g' with
      | true => K cells wm
      | false => bot
    | .big segs ps g' wm t => match Nat.beq g g' with
      | true => K2 segs ps wm t
      | false => bot
    | _ => bot
  | false => bot

noncomputable def segLen (segs : List (Nat × AV)) : Nat := List.rec (motive := fun _ => Nat) 0 (fun s _ ih => Nat.add s.1 ih) segs
/-- How many cells a row has. -/
noncomputable def xRowN (o g : Nat) (x : X) (K : Nat → R) : R := xRow2 bot o g x (fun cells _ => K cells.length) fun segs _ _ _ => K (segLen segs)

noncomputable def segGet (segs : List (Nat × AV)) : Nat → (AV → R) → R :=
  List.rec (motive := fun _ => Nat → (AV → R) → R) (fun _ _ => bot) (fun s _ ih i K => match Nat.blt i s.1 with
    | true => K s.2
    | false => ih (Nat.sub i s.1) K) segs
noncomputable def bigGet (segs ps : List (Nat × AV)) (i : Nat) (K : AV → R) : R :=
  List.rec (motive := fun _ => R) (segGet bot segs i K) (fun p _ ih => match Nat.beq p.1 i with
    | true => K p.2
    | false => ih) ps
/-- Cells written one behind the other. -/
noncomputable def addP (l : List AV) : Nat → List (Nat × AV) → List (Nat × AV) :=
  List.rec (motive := fun _ => Nat → List (Nat × AV) → List (Nat × AV)) (fun _ ps => ps) (fun a _ ih off ps => ih (Nat.succ off) ((off, a) :: ps)) l

def scalarB : TD → Bool
  | .other | .arr .. | .st _ => false
  | _ => true

noncomputable def xLoad (t : TypeId) (v : AV) (x : X) (K : AV → X → R) : R :=
  match v with
  | .ip cells => xVal bot T t cells fun v => K v x
  | .ptr o g off => xRow2 bot o g x (fun cells _ => xVal bot T t (cells.drop off) fun v => K v x) fun segs ps _ _ => match Nat.blt off (segLen segs), scalarB (T.td t) with
    | true, true => bigGet bot segs ps off fun v => K v x
    | _, _ => bot
  | _ => bot

noncomputable def xStore (t : TypeId) (a v : AV) (x : X) (K : AV → X → R) : R :=
  match a, cellsA v with
  | .ptr o g off, some vs => match Nat.ble x.base o, Nat.beq (T.size t) vs.length, T.size t, vs.all oneA with
    | true, true, _ + 1, true => xRow2 bot o g x (fun cells wm => match Nat.ble wm off, Nat.ble (Nat.add off vs.length) cells.length with
      | true, true => fList (put cells off vs) fun cells' => x.setK bot o (.row cells' g wm) (x.objs.get noObj o).ty fun x' => K undefA x'
      | _, _ => bot) fun segs ps wm ty => match Nat.ble wm off, Nat.ble (Nat.add off vs.length) (segLen segs) with
      | true, true => fList (addP vs off ps) fun ps' => x.setO bot o (.big segs ps' g wm ty) fun x' => K undefA x'
      | _, _ => bot
    | _, _, _, _ => bot
  | _, _ => bot

noncomputable def xNil (v : AV) (x : X) (K : AV → X → R) : R :=
  match v with
  | .ip _ | .ptr .. => K v x
  | .fn (.func _) _ _ => K v x
  | _ => bot

noncomputable def xFill (place : Nat → Option (Nat × Nat)) (cells : List AV) (l : List (Nat × AV)) (K : List AV → R) : R :=
  List.rec (motive := fun _ => List AV → R) (fun cells => K cells) (fun p _ ih cells =>
    match place p.1, cellsA p.2 with
    | some (off, size), some vs => match Nat.beq vs.length size, Nat.ble (Nat.add off vs.length) cells.length with
      | true, true => fList (put cells off vs) ih
      | _, _ => bot
    | _, _ => bot) l cells

noncomputable def xBuild (t : TypeId) (parts : List (Nat × AV)) (x : X) (K : AV → X → R) : R :=
  match T.size t with
  | 0 => bot
  | _ + 1 => match T.td t with
    | .st fs => match fs.all fun f => match T.size f.2 with | 0 => false | _ + 1 => true with
      | true => fList (zeroA T t) fun z => xFill bot (fun i => (fs[i]?).map fun (o, ft) => (o, T.size ft)) z parts fun cells => K (.agg cells) x
      | false => bot
    | .arr _ e => match T.size e with
      | 0 => bot
      | n + 1 => fList (zeroA T t) fun z => xFill bot (fun i => some (Nat.mul i (Nat.succ n), Nat.succ n)) z parts fun cells => K (.agg cells) x
    | _ => bot

noncomputable def xNew (mt full : Bool) (ty : Option TypeId) (len esz : Nat) (cells : List AV) (x : X) (K : AV → X → R) : R :=
  match mt with
  | true => x.pushK bot (.row cells 0 0) ty fun n x' => K (.ms n 0 0 len esz) x'
  | false => match cells.all pureS with
    | true => K (.sl full len cells) x
    | false => bot

noncomputable def xBuildSlice (mt : Bool) (t : TypeId) (len : Nat) (parts : List (Nat × AV)) (x : X) (K : AV → X → R) : R :=
  match T.td t with
  | .sl e => match T.size e with
    | 0 => bot
    | n + 1 => match Nat.ble (Nat.mul len (Nat.succ n)) 16777216 with
      | true => fList (zeroA T e) fun z => fList (repA z len) fun z => xFill bot (fun i => some (Nat.mul i (Nat.succ n), Nat.succ n)) z parts fun cells => xNew bot mt true (some e) len (Nat.succ n) cells x K
      | false => bot
  | _ => bot

noncomputable def xFieldAddr (s : TypeId) (v : AV) (f : Nat) (x : X) (K : AV → X → R) : R :=
  match T.td s with
  | .st fs => match fs[f]? with
    | some (off, ft) => match T.size ft with
      | 0 => bot
      | _ + 1 => match v with
        | .ip cells => K (.ip (cells.drop off)) x
        | .ptr o g b => K (.ptr o g (Nat.add b off)) x
        | _ => bot
    | none => bot
  | _ => bot

noncomputable def xField (s : TypeId) (v : AV) (f : Nat) (x : X) (K : AV → X → R) : R :=
  match T.td s with
  | .st fs => match fs[f]? with
    | some (off, ft) => match v with
      | .agg cells => xVal bot T ft (cells.drop off) fun v => K v x
      | _ => bot
    | none => bot
  | _ => bot

def xIdx (ix : AV) (len : Nat) (K : Nat → R) : R :=
  match ix with
  | .int _ (.ofNat i) => match Nat.blt i len with
    | true => K i
    | false => bot
  | _ => bot

noncomputable def xIndexAddr (t : TypeId) (v ix : AV) (x : X) (K : AV → X → R) : R :=
  match T.td t, v with
  | .arr n e, .ip cells => match T.size e with
    | 0 => bot
    | z + 1 => xIdx bot ix n fun i => fList ((cells.drop (Nat.mul i (Nat.succ z))).take (Nat.succ z)) fun xs => K (.ip xs) x
  | .arr n e, .ptr o g off => match T.size e with
    | 0 => bot
    | z + 1 => xIdx bot ix n fun i => K (.ptr o g (Nat.add off (Nat.mul i (Nat.succ z)))) x
  | .sl e, .sl _ len cells => match T.size e with
    | 0 => bot
    | z + 1 => xIdx bot ix len fun i => fList ((cells.drop (Nat.mul i (Nat.succ z))).take (Nat.succ z)) fun xs => K (.ip xs) x
  | .sl e, .ms o g off len esz => match T.size e with
    | 0 => bot
    | z + 1 => xIdx bot ix len fun i => K (.ptr o g (Nat.add off (Nat.mul i (Nat.succ z)))) x
  | _, _ => bot

noncomputable def xIndex (t : TypeId) (v ix : AV) (x : X) (K : AV → X → R) : R :=
  match T.td t, v with
  | .arr n e, .agg cells => match T.size e with
    | 0 => bot
    | z + 1 => xIdx bot ix n fun i => xVal bot T e (cells.drop (Nat.mul i (Nat.succ z))) fun v => K v x
  | .str, .str s => xIdx bot ix s.length fun i => match s[i]? with
    | some c => K (.int .u8 (Int.ofNat c.toNat)) x
    | none => bot
  | _, _ => bot

def xBnd (b : Option AV) (dflt : Nat) (K : Nat → R) : R :=
  match b with
  | none => K dflt
  | some (.int _ (.ofNat n)) => K n
  | _ => bot

def xLe (a b : Nat) (K : R) : R := match Nat.ble a b with
  | true => K
  | false => bot

noncomputable def xSlice (t : TypeId) (v : AV) (lo hi mx : Option AV) (x : X) (K : AV → X → R) : R :=
  match T.td t, v, mx with
  | .str, .str s, none => xBnd bot hi s.length fun h => xBnd bot lo 0 fun l => xLe bot l h (xLe bot h s.length (fList ((s.take h).drop l) fun r => K (.str r) x))
  | .sl e, .sl full len cells, none => match T.size e with
    | 0 => bot
    | z + 1 => xBnd bot hi len fun h => xBnd bot lo 0 fun l => xLe bot l h (xLe bot h len (fList ((cells.take (Nat.mul h (Nat.succ z))).drop (Nat.mul l (Nat.succ z))) fun r => K (.sl (full && Nat.beq h len) (Nat.sub h l) r) x))
  | .sl e, .sl full len cells, some m => match T.size e, hi with
    | z + 1, some hi => xBnd bot (some m) 0 fun m => xBnd bot (some hi) 0 fun h => xBnd bot lo 0 fun l => xLe bot l h (xLe bot h m (xLe bot m len (fList ((cells.take (Nat.mul h (Nat.succ z))).drop (Nat.mul l (Nat.succ z))) fun r => K (.sl (Nat.beq h m) (Nat.sub h l) r) x)))
    | _, _ => bot
  | .sl e, .nils, none => match T.size e with
    | 0 => bot
    | _ + 1 => xBnd bot hi 0 fun h => xBnd bot lo 0 fun l => match l, h with
      | 0, 0 => K .nils x
      | _, _ => bot
  | .sl e, .ms o g off len esz, none => match T.size e with
    | 0 => bot
    | z + 1 => match Nat.beq (Nat.succ z) esz with
      | true => xBnd bot hi len fun h => xBnd bot lo 0 fun l => xLe bot l h (xLe bot h len (match Nat.blt l len || Nat.beq l 0 with
        | true => K (.ms o g (Nat.add off (Nat.mul l esz)) (Nat.sub h l) esz) x
        | false => xRowN bot o g x fun _ => K (.sl false 0 []) x))
      | false => bot
  | .sl e, .ms o g off len esz, some m => match T.size e, hi with
    | z + 1, some hi => match Nat.beq (Nat.succ z) esz with
      | true => xBnd bot (some m) 0 fun m => xBnd bot (some hi) 0 fun h => xBnd bot lo 0 fun l => xLe bot l h (xLe bot h m (xLe bot m len (match Nat.blt l m || Nat.beq l 0 with
        | true => K (.ms o g (Nat.add off (Nat.mul l esz)) (Nat.sub h l) esz) x
        | false => bot)))
      | false => bot
    | _, _ => bot
  | .arr n e, .ip cells, none => match T.size e with
    | 0 => bot
    | z + 1 => xBnd bot hi n fun h => xBnd bot lo 0 fun l => xLe bot l h (xLe bot h n (fList ((cells.take (Nat.mul h (Nat.succ z))).drop (Nat.mul l (Nat.succ z))) fun r => K (.sl (Nat.beq h n) (Nat.sub h l) r) x))
  | .arr n e, .ptr o g off, none => match T.size e with
    | 0 => bot
    | z + 1 => xBnd bot hi n fun h => xBnd bot lo 0 fun l => xLe bot l h (xLe bot h n (match Nat.blt l n || Nat.beq l 0 with
        | true => xRowN bot o g x fun len => xLe bot (Nat.add off (Nat.mul n (Nat.succ z))) len (K (.ms o g (Nat.add off (Nat.mul l (Nat.succ z))) (Nat.sub h l) (Nat.succ z)) x)
        | false => bot))
  | _, _, _ => bot

/-- Texts, held one against the other byte by byte. -/
def eqStr : List UInt8 → List UInt8 → Bool
  | [], [] => true
  | a :: l, b :: m => match Nat.beq a.toNat b.toNat with
    | true => eqStr l m
    | false => false
  | _, _ => false
def ltStr : List UInt8 → List UInt8 → Bool
  | _, [] => false
  | [], _ :: _ => true
  | a :: l, b :: m => match Nat.blt a.toNat b.toNat with
    | true => true
    | false => match Nat.beq a.toNat b.toNat with
      | true => ltStr l m
      | false => false
def eqInt : Int → Int → Bool
  | .ofNat a, .ofNat b => Nat.beq a b
  | .negSucc a, .negSucc b => Nat.beq a b
  | _, _ => false
def leInt : Int → Int → Bool
  | .ofNat a, .ofNat b => Nat.ble a b
  | .negSucc a, .negSucc b => Nat.ble b a
  | .ofNat _, .negSucc _ => false
  | .negSucc _, .ofNat _ => true

noncomputable def xStrBin (op : BinOp) (a b : List UInt8) (x : X) (K : AV → X → R) : R :=
  match op with
  | .add => xLe bot (Nat.add a.length b.length) 4611686018427387904 (fList (a ++ b) fun s => K (.str s) x)
  | .eql => K (.bool (eqStr a b)) x
  | .neq => K (.bool (!(eqStr a b))) x
  | .lss => K (.bool (ltStr a b)) x
  | .leq => K (.bool (ltStr a b || eqStr a b)) x
  | .gtr => K (.bool (!(ltStr a b || eqStr a b))) x
  | .geq => K (.bool (!(ltStr a b))) x
  | _ => bot

def eqSX : AV → AV → Option Bool
  | .int k a, .int k' b => if sameInt k k' then some (eqInt a b) else none
  | .bool a, .bool b => some (a == b)
  | .str a, .str b => some (eqStr a b)
  | _, _ => none
def eqLX : List AV → List AV → Option Bool
  | [], [] => some true
  | x :: xs, y :: ys => match eqSX x y, eqLX xs ys with
    | some a, some b => some (a && b)
    | _, _ => none
  | _, _ => none

noncomputable def xBin (op : BinOp) (t : TypeId) (v y : AV) (x : X) (K : AV → X → R) : R :=
  match v, y with
  | .int k a, .int k' b => match op with
    | .shl => match b with
      | .ofNat n => K (.int k (k.wrap (a * 2 ^ (min n k.bits)))) x
      | _ => bot
    | .shr => match b with
      | .ofNat n => K (.int k (a.fdiv (2 ^ (min n k.bits)))) x
      | _ => bot
    | .quo => match sameInt k k', eqInt b 0 with
      | true, false => K (.int k (k.wrap (a.tdiv b))) x
      | _, _ => bot
    | .rem => match sameInt k k', eqInt b 0 with
      | true, false => K (.int k (a.tmod b)) x
      | _, _ => bot
    | .eql => match sameInt k k' with
      | true => K (.bool (eqInt a b)) x
      | false => bot
    | .neq => match sameInt k k' with
      | true => K (.bool (!(eqInt a b))) x
      | false => bot
    | .lss => match sameInt k k' with
      | true => K (.bool (!(leInt b a))) x
      | false => bot
    | .leq => match sameInt k k' with
      | true => K (.bool (leInt a b)) x
      | false => bot
    | .gtr => match sameInt k k' with
      | true => K (.bool (!(leInt a b))) x
      | false => bot
    | .geq => match sameInt k k' with
      | true => K (.bool (leInt b a)) x
      | false => bot
    | _ => match sameInt k k', intBin op k a b with
      | true, some v => K v x
      | _, _ => bot
  | .str a, .str b => xStrBin bot op a b x K
  | .bool a, .bool b => match T.td t, op with
    | .bool, .eql => K (.bool (a == b)) x
    | .bool, .neq => K (.bool (!(a == b))) x
    | _, _ => bot
  | .agg xs, .agg ys => match T.peq t xs && T.peq t ys with
    | true => match eqLX xs ys, op with
      | some b, .eql => K (.bool b) x
      | some b, .neq => K (.bool !b) x
      | _, _ => bot
    | false => bot
  | .ptr o g off, .ptr o' g' off' => match Nat.beq o o', Nat.beq g g', Nat.beq off off', T.td t with
    | true, true, true, .ptr e => match T.size e with
      | 0 => bot
      | _ + 1 => xRowN bot o g x fun _ => match op with
        | .eql => K (.bool true) x
        | .neq => K (.bool false) x
        | _ => bot
    | _, _, _, _ => bot
  | v, y => match nilA (T.td t) v y, op with
    | some b, .eql => K (.bool b) x
    | some b, .neq => K (.bool !b) x
    | _, _ => bot

noncomputable def xUn (op : UnOp) (v : AV) (x : X) (K : AV → X → R) : R :=
  match op, v with
  | .neg, .int k n => K (.int k (k.wrap (0 - n))) x
  | .xor, .int k n => K (.int k (k.wrap (((n % 2 ^ k.bits).toNat ^^^ (2 ^ k.bits - 1) : Nat) : Int))) x
  | .not, .bool b => K (.bool !b) x
  | _, _ => bot

def unB : List AV → (List UInt8 → R) → R
  | [], K => K []
  | .int .u8 (.ofNat n) :: l, K => match Nat.blt n 256 with
    | true => unB l fun s => K (UInt8.ofNat n :: s)
    | false => bot
  | _, _ => bot

def isU8 (e : TypeId) : Bool := match T.td e with
  | .int .u8 => true
  | _ => false
def isStr (t : TypeId) : Bool := match T.td t with
  | .str => true
  | _ => false
def isBytes (t : TypeId) : Bool := match T.td t with
  | .sl e => isU8 T e
  | _ => false

noncomputable def xConv (mt : Bool) (src dst : TypeId) (v : AV) (x : X) (K : AV → X → R) : R :=
  match T.td src with
  | .other => bot
  | _ => match T.td dst, v with
    | .int k, .int _ n => K (.int k (k.wrap n)) x
    | .str, .str s => match isStr T src with
      | true => K (.str s) x
      | false => bot
    | .sl e, .str s => match isStr T src, isU8 T e, Nat.beq (T.size e) 1 with
      | true, true, true => match mt with
        | true => fList (s.map byteA) fun cs => x.pushK bot (.row cs 0 0) none fun n x' => K (.ms n 0 0 s.length 1) x'
        | false => fList (s.map byteA) fun cs => K (.sl false s.length cs) x
      | _, _, _ => bot
    | .str, .nils => match isBytes T src with
      | true => K (.str []) x
      | false => bot
    | .str, .sl _ len cells => match isBytes T src with
      | true => unB bot cells fun s => match Nat.beq s.length len with
        | true => K (.str s) x
        | false => bot
      | false => bot
    | .str, .ms o g off len _ => match isBytes T src with
      | true => xRow bot o g x fun cells _ => unB bot ((cells.drop off).take len) fun s => match Nat.beq s.length len with
        | true => K (.str s) x
        | false => bot
      | false => bot
    | .up, .ptr o g off => match T.td src with
      | .ptr e => match T.size e with
        | 0 => bot
        | _ + 1 => xRowN bot o g x fun len => match Nat.blt off len with
          | true => K (.ptr o g off) x
          | false => bot
      | _ => bot
    | .ptr e, .ptr o g 0 => match T.td src, T.size e, (x.objs.get noObj o).ty with
      | .up, z + 1, some e' => match Nat.beq e' e with
        | true => xRowN bot o g x fun len => xLe bot (Nat.succ z) len (K (.ptr o g 0) x)
        | false => bot
      | _, _, _ => bot
    | _, _ => bot

noncomputable def xSrc (esz : Nat) (v : AV) (x : X) (K : Nat → List AV → R) : R :=
  match v with
  | .nils => K 0 []
  | .sl _ n cells => fList (cells.take (Nat.mul n esz)) fun r => match Nat.beq r.length (Nat.mul n esz) with
    | true => K n r
    | false => bot
  | .str s => match esz with
    | 1 => fList (s.map byteA) fun r => K s.length r
    | _ => bot
  | .ms o g off n esz' => match Nat.beq esz' esz with
    | true => xRow bot o g x fun cells _ => fList ((cells.drop off).take (Nat.mul n esz)) fun r => match Nat.beq r.length (Nat.mul n esz) with
      | true => K n r
      | false => bot
    | false => bot
  | _ => bot

def xKeep (t : Option TypeId) (e : TypeId) : Option TypeId :=
  match t with
  | some e' => match Nat.beq e' e with
    | true => some e
    | false => none
  | none => none

noncomputable def xAppend (t : TypeId) (s y : AV) (x : X) (K : AV → X → R) : R :=
  match T.td t with
  | .sl e => match T.size e, Nat.ble (T.bytes e) 4096 with
    | z + 1, true => xSrc bot (Nat.succ z) y x fun n xs => match xs.all oneA with
      | true => match n with
        | 0 => match isSl s with
          | true => K s x
          | false => bot
        | n + 1 => match s with
          | .nils => xLe bot (Nat.succ n) 1073741824 (x.pushK bot (.row xs 0 0) (some e) fun o x' => K (.ms o 0 0 (Nat.succ n) (Nat.succ z)) x')
          | .sl true len cells => xLe bot (Nat.add len (Nat.succ n)) 1073741824 (fList (cells.take (Nat.mul len (Nat.succ z))) fun r => match Nat.beq r.length (Nat.mul len (Nat.succ z)) with
            | true => fList (r ++ xs) fun cs => x.pushK bot (.row cs 0 0) (some e) fun o x' => K (.ms o 0 0 (Nat.add len (Nat.succ n)) (Nat.succ z)) x'
            | false => bot)
          | .ms o g 0 len esz => match Nat.beq esz (Nat.succ z), Nat.ble x.base o with
            | true, true => xLe bot (Nat.add len (Nat.succ n)) 1073741824 (xRow bot o g x fun cells wm => xLe bot wm (Nat.mul len esz) (xLe bot (Nat.mul len esz) cells.length
                (fList (cells.take (Nat.mul len esz) ++ xs) fun cs => x.setK bot o (.row cs (Nat.succ g) wm) (xKeep (x.objs.get noObj o).ty e) fun x' => K (.ms o (Nat.succ g) 0 (Nat.add len (Nat.succ n)) esz) x')))
            | _, _ => bot
          | _ => bot
      | false => bot
    | _, _ => bot
  | _ => bot

noncomputable def xMakeSlice (t : TypeId) (len cap : AV) (x : X) (K : AV → X → R) : R :=
  match T.td t, len, cap with
  | .sl e, .int _ (.ofNat l), .int _ (.ofNat k) => match T.size e, Nat.ble (T.bytes e) 4096 with
    | z + 1, true => xLe bot l k (xLe bot (Nat.mul k (Nat.succ z)) 16777216 (fList (repA (zeroA T e) k) fun cs => x.pushK bot (.row cs 0 0) (some e) fun n x' => K (.ms n 0 0 l (Nat.succ z)) x'))
    | _, _ => bot
  | _, _, _ => bot

noncomputable def xFind (k : AV) (es : List (AV × AV)) (none' : R) (some' : Nat → AV → R) : R :=
  List.rec (motive := fun _ => Nat → R) (fun _ => none') (fun p _ ih i => match eqSX k p.1 with
    | some true => some' i p.2
    | some false => ih (Nat.succ i)
    | none => bot) es 0

noncomputable def xMap (o : Nat) (x : X) (K : List (AV × AV) → R) : R :=
  match Nat.blt o x.n with
  | true => match x.objs.get noObj o with
    | .o (.map es) _ => K es
    | _ => bot
  | false => bot

noncomputable def xMiss (et : TypeId) (commaOk : Bool) (x : X) (K : AV → X → R) : R :=
  match T.size et with
  | 0 => bot
  | _ + 1 => xVal bot T et (zeroA T et) fun z => K (match commaOk with | true => .tup [z, .bool false] | false => z) x

noncomputable def xLookup (t : TypeId) (m k : AV) (commaOk : Bool) (x : X) (K : AV → X → R) : R :=
  match T.td t with
  | .map kt et => match keyA (T.td kt) k with
    | true => match m with
      | .nilm => xMiss bot T et commaOk x K
      | .mp o => xMap bot o x fun es => xFind bot k es (xMiss bot T et commaOk x K) fun _ v => K (match commaOk with | true => .tup [v, .bool true] | false => v) x
      | _ => bot
    | false => bot
  | _ => bot

noncomputable def xMapUpd (t : TypeId) (m k v : AV) (x : X) (K : AV → X → R) : R :=
  match T.td t, m with
  | .map kt et, .mp o => match keyA (T.td kt) k, Nat.ble x.base o with
    | true, true => xMap bot o x fun es => xFind bot k es (fList (es ++ [(k, v)]) fun es' => x.setK bot o (.map es') (x.objs.get noObj o).ty fun x' => K undefA x')
        fun i _ => fList (es.set i (k, v)) fun es' => x.setK bot o (.map es') (x.objs.get noObj o).ty fun x' => K undefA x'
    | _, _ => bot
  | _, _ => bot

noncomputable def xCopy (t : TypeId) (d y : AV) (x : X) (K : AV → X → R) : R :=
  match T.td t with
  | .sl e => match T.size e with
    | 0 => bot
    | z + 1 => xSrc bot (Nat.succ z) y x fun n xs => match d with
      | .nils => K (.int .i64 0) x
      | .ms o g off len esz => match Nat.beq esz (Nat.succ z), min n len with
        | true, 0 => K (.int .i64 0) x
        | true, k + 1 => match xs.all oneA, Nat.ble x.base o with
          | true, true => xRow2 bot o g x (fun cells wm => xLe bot wm off (xLe bot (Nat.add off (Nat.mul (Nat.succ k) esz)) cells.length
              (fList (put cells off (xs.take (Nat.mul (Nat.succ k) esz))) fun cs => x.setK bot o (.row cs g wm) (x.objs.get noObj o).ty fun x' => K (.int .i64 (Int.ofNat (Nat.succ k))) x')))
              fun segs ps wm ty => xLe bot wm off (xLe bot (Nat.add off (Nat.mul (Nat.succ k) esz)) (segLen segs)
                (match Nat.beq (xs.take (Nat.mul (Nat.succ k) esz)).length (Nat.mul (Nat.succ k) esz) with
                  | true => fList (addP (xs.take (Nat.mul (Nat.succ k) esz)) off ps) fun ps' => x.setO bot o (.big segs ps' g wm ty) fun x' => K (.int .i64 (Int.ofNat (Nat.succ k))) x'
                  | false => bot))
          | _, _ => bot
        | _, _ => bot
      | _ => bot
  | _ => bot

noncomputable def xUnsafeString (pt : TypeId) (p n : AV) (x : X) (K : AV → X → R) : R :=
  match p, n with
  | _, .int .i64 (.ofNat 0) => match p with
    | .ptr .. | .nilp => K (.str []) x
    | _ => bot
  | .ptr o g 0, .int .i64 (.ofNat (k + 1)) => match T.td pt, (x.objs.get noObj o).ty, Nat.ble x.base o with
    | .ptr e, some e', true => match Nat.beq e e', T.size e with
      | true, 1 => xLe bot (Nat.succ k) 9223372036854775807 (xRow bot o g x fun cells wm => unB bot (cells.take (Nat.succ k)) fun s => match Nat.beq s.length (Nat.succ k) with
        | true => x.setK bot o (.row cells g (max wm (Nat.succ k))) (x.objs.get noObj o).ty fun x' => K (.str s) x'
        | false => bot)
      | _, _ => bot
    | _, _, _ => bot
  | _, _ => bot

noncomputable def xBuiltin (b : Builtin) (ts : List TypeId) (args : List AV) (x : X) (K : AV → X → R) : R :=
  match b, ts, args with
  | .len, t :: _, .mp o :: _ => match T.td t with
    | .map _ _ => xMap bot o x fun es => K (.int .i64 (Int.ofNat es.length)) x
    | _ => bot
  | .cap, t :: _, .nils :: _ => match T.td t with
    | .sl _ => K (.int .i64 0) x
    | _ => bot
  | .copy, t :: _, d :: y :: _ => xCopy bot T t d y x K
  | .unsafeSliceData, _, .nils :: [] => K .nilp x
  | .unsafeSliceData, _, .ms o g off len _ :: [] => match len with
    | 0 => bot
    | _ + 1 => K (.ptr o g off) x
  | .unsafeString, pt :: _, p :: n :: [] => xUnsafeString bot T pt p n x K
  | .len, t :: _, v :: _ => match lenA x.st (T.td t) v with
    | some n => K (.int .i64 (Int.ofNat n)) x
    | none => bot
  | .append, t :: u :: _, s :: y :: _ => match T.td u with
    | .sl _ | .str => xAppend bot T t s y x K
    | _ => bot
  | .max, _, l => match wLess true l with
    | some v => K v x
    | none => bot
  | .min, _, l => match wLess false l with
    | some v => K v x
    | none => bot
  | _, _, _ => bot

/-- An operand's value. -/
noncomputable def xev (e : XE) (N : Nat) : Operand → AV
  | .tmp t => match Nat.blt t N with
    | true => e.get .bad t
    | false => .bad
  | .const v => ofC v
  | .global g => match T.glob g with | some cells => .ip cells | none => .bad
  | .func f => .fn (.func f) [] []

noncomputable def xArgs (e : XE) (N : Nat) : List Operand → List AV
  | [] => []
  | o :: l => xev T e N o :: xArgs e N l

noncomputable def xParts (e : XE) (N : Nat) : List (Nat × Operand) → List (Nat × AV)
  | [] => []
  | (i, o) :: l => (i, xev T e N o) :: xParts e N l

variable (call : FuncId → List AV → X → (AV → X → R) → R)

noncomputable def xCall (c : Call) (e : XE) (N : Nat) (x : X) (K : AV → X → R) : R :=
  match c.callee with
  | .value f => match xev T e N f with
    | .fn (.func g) first captured => fList (first ++ (xArgs T e N c.args.toList ++ captured)) fun args => call g args x K
    | _ => bot
  | .invoke r name => match xev T e N r with
    | .ifc t v => match T.meth t name with
      | some g => fList (v :: xArgs T e N c.args.toList) fun args => call g args x K
      | none => bot
    | _ => bot
  | .builtin b => xBuiltin bot T b c.argTypes.toList (xArgs T e N c.args.toList) x K

noncomputable def xOp (mt : Bool) (op : Op) (e : XE) (N : Nat) (x : X) (K : AV → X → R) : R :=
  match op with
  | .move v | .assign v => K (xev T e N v) x
  | .pick c a b => match xev T e N c with
    | .bool true => K (xev T e N a) x
    | .bool false => K (xev T e N b) x
    | _ => bot
  | .alloc t => match T.size t with
    | 0 => bot
    | _ + 1 => match T.big t with
      | none => x.pushK bot (.row (zeroA T t) 0 0) (some t) fun n x' => K (.ptr n 0 0) x'
      | some segs => x.pushO bot (.big segs [] 0 0 (some t)) fun n x' => K (.ptr n 0 0) x'
  | .box t v => match cellsA (xev T e N v) with
    | some cells => match mt with
      | true => x.pushK bot (.row cells 0 0) (some t) fun n x' => K (.ptr n 0 0) x'
      | false => match cells.all pureS with
        | true => K (.ip cells) x
        | false => bot
    | none => bot
  | .build t parts => xBuild bot T t (xParts T e N parts.toList) x K
  | .buildSlice t n parts => xBuildSlice bot T mt t n (xParts T e N parts.toList) x K
  | .load t a => xLoad bot T t (xev T e N a) x K
  | .store t a v => xStore bot T t (xev T e N a) (xev T e N v) x K
  | .nilCheck v => xNil bot (xev T e N v) x K
  | .binOp op t v y _ => xBin bot T op t (xev T e N v) (xev T e N y) x K
  | .unOp op _ v => xUn bot op (xev T e N v) x K
  | .convert s d v => xConv bot T mt s d (xev T e N v) x K
  | .makeInterface t v => match T.td t with
    | .ifc | .other => bot
    | _ => K (.ifc t (xev T e N v)) x
  | .makeFunc f first captured => fList (xArgs T e N first.toList) fun a => fList (xArgs T e N captured.toList) fun b => K (.fn f a b) x
  | .slice t v lo hi mx => xSlice bot T t (xev T e N v) (lo.map (xev T e N)) (hi.map (xev T e N)) (mx.map (xev T e N)) x K
  | .fieldAddr s v f => xFieldAddr bot T s (xev T e N v) f x K
  | .field s v f => xField bot T s (xev T e N v) f x K
  | .indexAddr t v i => xIndexAddr bot T t (xev T e N v) (xev T e N i) x K
  | .index t v i => xIndex bot T t (xev T e N v) (xev T e N i) x K
  | .extract v i => match xev T e N v with
    | .tup vs => match vs[i]? with
      | some v => K v x
      | none => bot
    | _ => bot
  | .call c => xCall bot T call c e N x K
  | .makeSlice t l c => xMakeSlice bot T t (xev T e N l) (xev T e N c) x K
  | .makeMap t none => x.pushK bot (.map []) none fun n x' => K (.mp n) x'
  | .lookup t m k commaOk => xLookup bot T t (xev T e N m) (xev T e N k) commaOk x K
  | .mapUpdate t m k v => xMapUpd bot T t (xev T e N m) (xev T e N k) (xev T e N v) x K
  | _ => bot

noncomputable def xPut (dst : Option Nat) (N : Nat) (e : XE) (v : AV) (K : XE → R) : R :=
  match dst with
  | none => K e
  | some d => match Nat.blt d N with
    | true => fVal v fun v => e.setK bot d v K
    | false => bot

/-- A region in the text's order. -/
noncomputable def xOps (M : Nat → Bool) (N : Nat) (all : List Oper) (l : List Oper) : XE → X → (XE → X → R) → R :=
  List.rec (motive := fun _ => XE → X → (XE → X → R) → R) (fun e x K => K e x) (fun o _ ih e x K =>
    match o.guard with
    | none => xOp bot T call (wMt M o.dst) o.op e N x fun v x' => xPut bot o.dst N e v fun e' => ih e' x' K
    | some (j, want) => match slotOf all j with
      | none => bot
      | some d => match Nat.blt d N, e.get .bad d with
        | true, .bool b => match b == want with
          | true => xOp bot T call (wMt M o.dst) o.op e N x fun v x' => xPut bot o.dst N e v fun e' => ih e' x' K
          | false => xPut bot o.dst N e undefA fun e' => ih e' x K
        | true, .tup [] => xPut bot o.dst N e undefA fun e' => ih e' x K
        | _, _ => bot) l

abbrev XK (R : Type) := XE → X → (Exit → XE → X → R) → R

noncomputable def xCode (M : Nat → Bool) (N : Nat) (fuel : Nat) (draw : Nat → List Oper → XE → X → (XE → X → R) → R) (scope : Code → XK R) (c : Code) : XK R :=
  Code.rec (motive := fun _ => XK R)
    (fun e x K => K .normal e x)
    (fun id ops drawn e x K => match drawn with
      | false => xOps bot T call M N ops.toList ops.toList e x (K .normal)
      | true => draw id ops.toList e x (K .normal))
    (fun _ _ iha ihb e x K => iha e x fun ex e x => match ex with
      | .normal => ihb e x K
      | ex => K ex e x)
    (fun c _ _ iha ihb e x K => match xev T e N c with
      | .bool true => iha e x K
      | .bool false => ihb e x K
      | _ => bot)
    (fun id _ ih e x K => ih e x fun ex e x => match ex with
      | .exit i => match Nat.beq i id with
        | true => K .normal e x
        | false => K (.exit i) e x
      | ex => K ex e x)
    (fun _ ih e x K => Nat.rec (motive := fun _ => XE → X → R) (fun _ _ => bot) (fun _ again e x => ih e x fun ex e x => match ex with
      | .normal => again e x
      | ex => K ex e x) fuel e x)
    (fun _ _ _ _ _ _ _ _ _ => bot)
    (fun id e x K => K (.exit id) e x)
    (fun c _ => scope c)
    (fun _ e x K => K .normal e x)
    (fun l e x K => K (.goto l) e x)
    (fun e x K => K .ret e x)
    (fun _ _ _ _ => bot)
    c

noncomputable def xRes (N : Nat) (e : XE) (x : X) : List ResultVar → (List AV → R) → R
  | [], K => K []
  | .tmp t :: rs, K => match Nat.blt t N with
    | true => xRes N e x rs fun vs => K (e.get .bad t :: vs)
    | false => bot
  | .cell t ty :: rs, K => match Nat.blt t N with
    | true => xLoad bot T ty (e.get .bad t) x fun v _ => xRes N e x rs fun vs => K (v :: vs)
    | false => bot

end

/-- What the computing machine knows of a function. -/
structure XF where
  code : Code
  N : Nat
  rs : List ResultVar
  M : Nat → Bool

noncomputable def xEnv0 {R : Type} (bot : R) : List AV → Nat → XE → (XE → R) → R
  | [], _, e, K => K e
  | v :: l, i, e, K => e.setK bot i v fun e' => xEnv0 bot l (Nat.succ i) e' K

/-- The machine on a call: so many calls within calls, so many rounds of a loop. -/
noncomputable def xRun {R : Type} (bot : R) (T : Tab) (fns : FuncId → Option XF) (rounds : Nat)
    (draw : XF → (FuncId → List AV → X → (AV → X → R) → R) → Nat → List Oper → XE → X → (XE → X → R) → R) (fuel : Nat) : FuncId → List AV → X → (AV → X → R) → R :=
  Nat.rec (motive := fun _ => FuncId → List AV → X → (AV → X → R) → R) (fun _ _ _ _ => bot) (fun _ run f args x K =>
    match fns f with
    | none => bot
    | some fi => xEnv0 bot args 0 (PT.full .bad 8) fun e => xCode bot T run fi.M fi.N rounds (draw fi run) (fun _ _ _ _ => bot) fi.code e x fun ex e x' => match ex with
      | .normal | .ret => xRes bot T fi.N e x' fi.rs fun vs => K (tupA vs) x'
      | _ => bot) fuel

end Go.Proofs.QQ
end
