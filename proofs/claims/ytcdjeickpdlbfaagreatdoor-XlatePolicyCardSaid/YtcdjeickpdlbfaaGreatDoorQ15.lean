/- A part of the proof that XlatePolicy returns true at every argument: the reader machine and this translation under it. Conditions: those that each theorem bears. -/
import Derived.Test.YtcdjeickpdlbfaaGreatDoorQ14
import Derived.Laws.StandIn
import Derived.Room.MakeNoZero
import Derived.Lib.Builder
import Derived.Lib.Bytealg
section
set_option linter.unusedVariables false
set_option linter.unusedSimpArgs false
namespace Go.Proofs.QQ
open Go

variable {P : Program} {T : Tab}

/-! ### A function's regions -/

abbrev OrdT := List (Nat × List OpJ × List Nat)

def opIEq (a b : OpI) : Bool :=
  (match a.dst, b.dst with
    | none, none => true
    | some d, some d' => Nat.beq d d'
    | _, _ => false) && (natsEq a.looks b.looks && (natsEq a.dirs b.dirs && (a.eff == b.eff)))
where natsEq : List Nat → List Nat → Bool
  | [], [] => true
  | a :: l, b :: m => Nat.beq a b && natsEq l m
  | _, _ => false

theorem natsEq_eq : ∀ {a b : List Nat}, opIEq.natsEq a b = true → a = b
  | [], [], _ => rfl
  | a :: l, b :: m, h => by
    simp only [opIEq.natsEq, Bool.and_eq_true] at h
    rw [Nat.eq_of_beq_eq_true h.1, natsEq_eq h.2]
  | [], _ :: _, h => by simp [opIEq.natsEq] at h
  | _ :: _, [], h => by simp [opIEq.natsEq] at h

theorem opIEq_eq {a b : OpI} (h : opIEq a b = true) : a = b := by
  obtain ⟨d, l, r, e⟩ := a
  obtain ⟨d', l', r', e'⟩ := b
  unfold opIEq at h
  simp only [Bool.and_eq_true] at h
  obtain ⟨h1, h2, h3, h4⟩ := h
  rw [natsEq_eq h2, natsEq_eq h3, eq_of_beq h4]
  congr
  cases d <;> cases d' <;> simp only at h1
  · rfl
  · cases h1
  · cases h1
  · rw [Nat.eq_of_beq_eq_true h1]

def infosEq : List OpI → List OpJ → Bool
  | [], [] => true
  | a :: l, b :: m => opIEq a b.info && infosEq l m
  | _, _ => false

theorem infosEq_eq : ∀ {a : List OpI} {b : List OpJ}, infosEq a b = true → a = b.map OpJ.info
  | [], [], _ => rfl
  | a :: l, b :: m, h => by
    simp only [infosEq, Bool.and_eq_true] at h
    rw [opIEq_eq h.1, infosEq_eq h.2]; rfl
  | [], _ :: _, h => by simp [infosEq] at h
  | _ :: _, [], h => by simp [infosEq] at h

noncomputable def findOrd (t : OrdT) (id : Nat) : Option (List OpJ × List Nat) :=
  List.rec (motive := fun _ => Option (List OpJ × List Nat)) none (fun p _ ih => match Nat.beq p.1 id with
    | true => some p.2
    | false => ih) t

/-- Each region of a piece of code that draws its order has its row, and this one is right. -/
noncomputable def codeOrdB (M : Nat → Bool) (t : OrdT) (c : Code) : Bool :=
  Code.rec (motive := fun _ => Bool)
    true
    (fun id ops drawn => match drawn with
      | false => true
      | true => match findOrd t id with
        | none => true
        | some (J, L) => infosEq (ops.toList.map (opI M ops.toList)) J && ordB J L)
    (fun _ _ a b => a && b)
    (fun _ _ _ a b => a && b)
    (fun _ _ a => a)
    (fun _ a => a)
    (fun _ _ _ _ _ _ => true)
    (fun _ => true)
    (fun _ a => a)
    (fun _ => true)
    (fun _ => true)
    true
    (fun _ => true)
    c

def Ordered (M : Nat → Bool) (t : OrdT) (id : Nat) (l : List Oper) : Prop := ∀ J L, findOrd t id = some (J, L) → Orders M l (J.map OpJ.bits) L
abbrev CodeOrd (M : Nat → Bool) (t : OrdT) : Code → Prop := CodeAll (Ordered M t)

theorem codeOrd_of {M : Nat → Bool} {t : OrdT} : ∀ {c : Code}, codeOrdB M t c = true → CodeOrd M t c := by
  intro c
  induction c with
  | region id ops drawn =>
    intro h
    cases drawn with
    | false => trivial
    | true =>
      intro J L hf
      have h : (match findOrd t id with
        | none => true
        | some (J, L) => infosEq (ops.toList.map (opI M ops.toList)) J && ordB J L) = true := h
      rw [hf] at h
      simp only [Bool.and_eq_true] at h
      exact orders_of (infosEq_eq h.1) h.2
  | seq a b iha ihb =>
    intro h
    have h : (codeOrdB M t a && codeOrdB M t b) = true := h
    rw [Bool.and_eq_true] at h
    exact ⟨iha h.1, ihb h.2⟩
  | cond c a b iha ihb =>
    intro h
    have h : (codeOrdB M t a && codeOrdB M t b) = true := h
    rw [Bool.and_eq_true] at h
    exact ⟨iha h.1, ihb h.2⟩
  | block id c ih => exact fun h => ih h
  | loop c ih => exact fun h => ih h
  | scope c ih => exact fun h => ih h
  | _ => intro _; trivial

/-! ### Functions -/

/-- What the machine knows of a function. -/
structure XG where
  code : Code
  N : Nat
  rs : List ResultVar
  M : Nat → Bool
  ord : OrdT

structure XGOk (P : Program) (f : FuncId) (g : XG) : Prop where
  fn : FnOk P f g.code g.N g.rs
  ord : CodeOrd g.M g.ord g.code
  small : g.N ≤ 255

section
variable {R : Type} (bot : R) (T : Tab) (call : FuncId → List AV → X → (AV → X → R) → R)

noncomputable def xDrawn (M : Nat → Bool) (N : Nat) (t : OrdT) (id : Nat) (l : List Oper) (e : XE) (x : X) (K : XE → X → R) : R :=
  match findOrd t id with
  | none => bot
  | some (J, L) => xDraw bot T call M N l (J.map OpJ.bits) L [] e x K

/-- Code with scopes of one label, none within another. -/
noncomputable def xBody (g : XG) (rounds : Nat) : XK R :=
  xCode bot T call g.M g.N rounds (xDrawn bot T call g.M g.N g.ord) (xScope bot (xCode bot T call g.M g.N rounds (xDrawn bot T call g.M g.N g.ord) fun _ _ _ _ => bot) rounds) g.code

noncomputable def xArgs0 (l : List AV) : Nat → XE → (XE → R) → R :=
  List.rec (motive := fun _ => Nat → XE → (XE → R) → R) (fun _ e K => K e) (fun v _ ih i e K => fVal v fun v => e.setK bot i v fun e' => fNat (Nat.succ i) fun i' => ih i' e' K) l

noncomputable def xFn (g : XG) (rounds : Nat) (args : List AV) (x : X) (K : AV → X → R) : R :=
  match Nat.ble args.length g.N with
  | true => xArgs0 bot args 0 (PT.full undefA 8) fun e => xBody bot T call g rounds e x fun ex e x' => match ex with
    | .normal | .ret => xRes bot T g.N e x' g.rs fun vs => K (tupA vs) x'
    | _ => bot
  | false => bot

end

/-- The machine on a call: an oracle first, else the body. -/
noncomputable def xRunO {R : Type} (bot : R) (T : Tab) (fns : FuncId → Option XG) (ora : FuncId → List AV → X → (AV → X → R) → R → R) (rounds fuel : Nat) : FuncId → List AV → X → (AV → X → R) → R :=
  Nat.rec (motive := fun _ => FuncId → List AV → X → (AV → X → R) → R) (fun _ _ _ _ => bot) (fun _ run f args x K =>
    ora f args x K (match fns f with
      | none => bot
      | some g => xFn bot T run g rounds args x K)) fuel

variable {call : Caller}

theorem ACode_change {N : Nat} {c : Code} {e e' : Env} {σ : St} {Q : Exit → Env → St → Prop} (h : ACode P T N c e σ Q) (he : ∀ t, t < N → e' t = e t) : ACode P T N c e' σ Q :=
  fun γ w a hr ha => h γ w a hr (ha.change he)

theorem body_x (ok : TabOk P T) (pe : PeqOk P T) (mx : P.follows .mixedOrders = true) (hc : CallOk P T call) {g : XG} (ho : CodeOrd g.M g.ord g.code) (rounds : Nat) (e : XE) (x : X) (K : Exit → XE → X → Prop)
    (h : xBody False T call g rounds e x K) : ACode P T g.N g.code e.env x.st (GoX K) := by
  have hd : DrawOk P T g.N (Ordered g.M g.ord) (xDrawn False T call g.M g.N g.ord) := by
    intro id l e x K hl h
    unfold xDrawn at h
    split at h
    · exact h.elim
    · rename_i J L hJ
      have := draw_x ok hc g.M g.N l (J.map OpJ.bits) L [] [] e x K ⟨fun _ _ _ hm => absurd hm (by simp), fun _ _ _ hm => absurd hm (by simp)⟩ h
      exact A_draw (Q := normQ K) ok pe mx g.M (J.map OpJ.bits) L (hl J L hJ) this
  have inner : CodeOk P T g.N (Ordered g.M g.ord) (xCode False T call g.M g.N rounds (xDrawn False T call g.M g.N g.ord) fun _ _ _ _ => False) :=
    code_x ok pe hc g.M hd fun _ _ _ _ _ h => h.elim
  exact code_x ok pe hc g.M hd (fun c e x K ho h => scope_x inner rounds c e x K ho h) g.code e x K ho h

theorem full_get {α : Type} (d v : α) : ∀ (n i : Nat), i + 1 < 2 ^ n → (PT.full v n).get d i = v
  | 0, i, h => by simp at h
  | n + 1, 0, h => rfl
  | n + 1, k + 1, h => by
    have hk : k / 2 + 1 < 2 ^ n := by
      have : 2 ^ (n + 1) = 2 * 2 ^ n := by rw [Nat.pow_succ, Nat.mul_comm]
      omega
    simp only [PT.full]
    rw [PT.get_succ]
    split <;> exact full_get d v n _ hk

theorem args0_x {K : XE → Prop} : ∀ (l : List AV) (i : Nat) (e : XE), xArgs0 False l i e K → ∃ e' : XE, K e' ∧ ∀ t, e'.env t = if t < i then e.env t else match l[t - i]? with | some v => v | none => e.env t
  | [], i, e, h => ⟨e, h, fun t => by simp⟩
  | v :: l, i, e, h => by
    have h : fVal v fun v => e.setK False i v fun e' => fNat (Nat.succ i) fun i' => xArgs0 False l i' e' K := h
    rw [fVal_eq] at h
    obtain ⟨t', h1, h2⟩ := PT.setK_get .bad h
    rw [fNat_eq] at h1
    obtain ⟨e', hk, he⟩ := args0_x l (i + 1) t' h1
    refine ⟨e', hk, fun t => ?_⟩
    have h2' : ∀ j, XE.env t' j = if j = i then v else XE.env e j := h2
    rw [he t]
    by_cases h3 : t < i
    · rw [if_pos (by omega), if_pos h3, h2', if_neg (by omega)]
    · rw [if_neg h3]
      by_cases h4 : t = i
      · subst h4
        rw [if_pos (by omega), h2', if_pos rfl]
        simp
      · rw [if_neg (by omega), h2', if_neg h4]
        have : t - i = (t - (i + 1)) + 1 := by omega
        rw [this]
        simp

theorem res_x {N : Nat} {e : XE} {x : X} : ∀ (rs : List ResultVar) {K : List AV → Prop}, xRes False T N e x rs K → wRes T N e.env x.st rs K
  | [], K, h => h
  | .tmp t :: rs, K, h => by
    simp only [xRes] at h
    simp only [wRes]
    split at h
    · rename_i hb
      simp only [hb]
      exact res_x rs h
    · exact h.elim
  | .cell t ty :: rs, K, h => by
    simp only [xRes] at h
    simp only [wRes]
    split at h
    · rename_i hb
      simp only [hb]
      exact wLoad_imp (fun v σ ⟨x', _, hk⟩ => res_x rs hk) (load_x h)
    · exact h.elim

theorem wRes_imp {N : Nat} {e : Env} {σ : St} : ∀ (rs : List ResultVar) {K K' : List AV → Prop}, (∀ vs, K vs → K' vs) → wRes T N e σ rs K → wRes T N e σ rs K'
  | [], K, K', hk, h => hk _ h
  | .tmp t :: rs, K, K', hk, h => by
    simp only [wRes] at h ⊢
    split at h
    · exact wRes_imp rs (fun vs => hk _) h
    · exact h.elim
  | .cell t ty :: rs, K, K', hk, h => by
    simp only [wRes] at h ⊢
    split at h
    · exact wLoad_imp (fun v σ' h => wRes_imp rs (fun vs => hk _) h) h
    · exact h.elim

theorem fn_x (ok : TabOk P T) (pe : PeqOk P T) (mx : P.follows .mixedOrders = true) (hc : CallOk P T call) {f : FuncId} {g : XG} (hg : XGOk P f g) {rounds : Nat} {args : List AV} {x : X} {K : AV → X → Prop}
    (h : xFn False T call g rounds args x K) : ACall P T f args x.st (GoOn K) := by
  unfold xFn at h
  split at h
  case h_2 => exact h.elim
  rename_i hb
  have hN := Nat.le_of_ble_eq_true hb
  obtain ⟨e, h, he⟩ := args0_x _ _ _ h
  refine C_open ok hg.fn hN (ACode_change (A_mono (body_x ok pe mx hc hg.ord rounds e x _ h) fun ex env σ hp => ?_) fun t ht => ?_)
  · obtain ⟨e', x', rfl, rfl, hk⟩ := hp
    cases ex
    case normal => exact wRes_imp _ (fun vs h => ⟨x', rfl, h⟩) (res_x _ hk)
    case ret => exact wRes_imp _ (fun vs h => ⟨x', rfl, h⟩) (res_x _ hk)
    all_goals exact hk.elim
  · rw [he t, if_neg (Nat.not_lt_zero t)]
    have : XE.env (PT.full undefA 8) t = undefA := full_get _ _ 8 t (by have := hg.small; show t + 1 < 256; omega)
    rw [this, Nat.sub_zero]
    rfl

/-! ### Oracles -/

def OraOk (P : Program) (T : Tab) (ora : FuncId → List AV → X → (AV → X → Prop) → Prop → Prop) : Prop := ∀ f args x K Fb, ora f args x K Fb → ACall P T f args x.st (GoOn K) ∨ Fb

theorem run_x (ok : TabOk P T) (pe : PeqOk P T) (mx : P.follows .mixedOrders = true) {fns : FuncId → Option XG} (hf : ∀ f g, fns f = some g → XGOk P f g)
    {ora : FuncId → List AV → X → (AV → X → Prop) → Prop → Prop} (ho : OraOk P T ora) (rounds : Nat) : ∀ fuel, CallOk P T (xRunO False T fns ora rounds fuel)
  | 0 => fun f args x K h => h.elim
  | n + 1 => fun f args x K h => by
    have h : ora f args x K (match fns f with
      | none => False
      | some g => xFn False T (xRunO False T fns ora rounds n) g rounds args x K) := h
    rcases ho _ _ _ _ _ h with h | h
    · exact h
    · split at h
      · exact h.elim
      · rename_i g hg
        exact fn_x ok pe mx (run_x ok pe mx hf ho rounds n) (hf f g hg) h

/-! ### Memos: calls that hold in every state, seen from the empty one -/

/-- The empty state. -/
noncomputable def X0 : X := ⟨0, 0, PT.full noObj 13⟩

theorem drop_step0 {γ γ' : Gh} {σ σ' : St} {w w' : World} (h : Rel T.glob γ σ w) (hs : Step { γ with n := 0 } 0 w γ' w') (h' : Rel T.glob γ' σ' w') :
    Step γ σ.base w (γ'.drop σ' 0 γ) w' ∧ Rel T.glob (γ'.drop σ' 0 γ) σ w' := by
  have keep : ∀ b, b < w.heap.size → w'.heap[b]? = w.heap[b]? := fun b hb => hs.frame b hb fun o _ ho => absurd ho (Nat.not_lt_zero _)
  have newb : ∀ o, o < γ'.n → w.heap.size ≤ γ'.blk o := fun o ho => by
    rcases hs.new o (Nat.zero_le _) ho with ⟨h1, _⟩ | h1
    · exact absurd h1 (Nat.not_lt_zero _)
    · exact h1
  have newp : ∀ b i, γ'.prot b i → γ.prot b i ∨ w.heap.size ≤ b := fun b i hp => by
    rcases hs.newp b i hp with h1 | h1 | ⟨o, _, h1, _⟩
    · exact .inl h1
    · exact .inr h1
    · exact absurd h1 (Nat.not_lt_zero _)
  have dropp : ∀ b i, (γ'.drop σ' 0 γ).prot b i → γ.prot b i ∨ w.heap.size ≤ b := fun b i hp => by
    rcases hp with hp | ⟨o', cells, g, wm, h1, h2, h3, h4, h5⟩
    · exact newp b i hp
    · exact .inr (h4 ▸ newb o' h2)
  have e : Evo γ w (γ'.drop σ' 0 γ) w' := {
    n := Nat.le_refl _
    gen := fun o ho => Nat.le_refl _
    same := fun o ho _ => ⟨rfl, rfl⟩
    fix := fun o ho hf => ⟨hf, rfl⟩
    prot := fun b i hp => ⟨.inl (hs.prot b i hp).1, (hs.prot b i hp).2⟩ }
  have oldp : ∀ o i, o < γ.n → (γ'.drop σ' 0 γ).prot (γ.blk o) i → γ.prot (γ.blk o) i := fun o i ho hp => by
    rcases dropp _ _ hp with h1 | h1
    · exact h1
    · have := h.lt o ho; omega
  refine ⟨{ e with os := hs.os, tape := hs.tape, output := hs.output, size := hs.size, frame := fun b hb _ => keep b hb, old := fun o _ ho => rfl, oldp := fun o i _ ho hp => oldp o i ho hp, new := fun o _ ho => .inl ⟨ho, rfl⟩, newp := (fun b i hp => by
    rcases dropp _ _ hp with h1 | h1
    · exact .inl h1
    · exact .inr (.inl h1)) }, ?_⟩
  have fr : ∀ o i, o < γ.n → w'.frozen? ⟨γ.blk o, i, none⟩ = w.frozen? ⟨γ.blk o, i, none⟩ := fun o i ho => by simp only [World.frozen?, keep _ (h.lt o ho)]
  exact {
    n := h.n
    base := h.base
    obj := fun o ho => by
      have hx := h.obj o ho
      cases hso : σ.at_ o with
      | row cells g wm =>
        rw [hso] at hx
        obtain ⟨hg, c, el, frz, hh, hsz, hl, hv, hf, hp⟩ := hx
        exact ⟨hg, c, el, frz, (keep _ (h.lt o ho)).trans hh, hsz, hl, fun i hi => (hv i hi).mono e, fun i hm hi => (fr o i ho).trans (hf i hm hi), fun i hi => hp i (oldp o i ho hi)⟩
      | map es =>
        rw [hso] at hx
        obtain ⟨hf, ⟨ms, clock, hh, hl, hv, hst⟩, hp⟩ := hx
        exact ⟨hf, ⟨ms, clock, (keep _ (h.lt o ho)).trans hh, hl, fun i hi => ⟨(hv i hi).1.mono e, (hv i hi).2.mono e⟩, hst⟩, fun i hi => hp i (oldp o i ho hi)⟩
      | iter s pos =>
        rw [hso] at hx
        obtain ⟨hf, hh, hp⟩ := hx
        exact ⟨hf, (keep _ (h.lt o ho)).trans hh, fun i hi => hp i (oldp o i ho hi)⟩
    inj := h.inj
    lt := fun o ho => Nat.lt_of_lt_of_le (h.lt o ho) hs.size
    prot := fun b i hp => by
      rcases hp with hp | ⟨o', cells, g, wm, h1, h2, h3, h4, h5⟩
      · exact h'.prot b i hp
      · obtain ⟨_, f, hc, _⟩ := h'.cells (h'.n ▸ h2) h3
        rw [h4, hc i h5]; rfl
    glob := fun g cells hg => (h.glob g cells hg).mono e
    ty := fun o t ho ht => by
      obtain ⟨c, frz, hc, hf⟩ := h.ty o t ho ht
      exact ⟨c, frz, (keep _ (h.lt o ho)).trans hc, hf⟩ }

theorem empty_rel {γ : Gh} {σ : St} {w : World} (h : Rel T.glob γ σ w) : Rel T.glob { γ with n := 0 } X0.st w where
  n := rfl
  base := Nat.le_refl _
  obj o ho := absurd ho (Nat.not_lt_zero _)
  inj o _ ho := absurd ho (Nat.not_lt_zero _)
  lt o ho := absurd ho (Nat.not_lt_zero _)
  prot := h.prot
  glob g cells hg := (h.glob g cells hg).pure rfl fun b i hp => ⟨hp, rfl⟩
  ty o _ ho := absurd ho (Nat.not_lt_zero _)

/-- What holds of a call in the empty state, holds in every one. -/
theorem C_memo {f : FuncId} {args : List AV} (hp : args.all pureS = true) {R : AV → Prop} (h : ACall P T f args X0.st fun v σ => wClean σ v R) (σ : St) : ACall P T f args σ fun v σ' => R v ∧ σ' = σ := fun γ w cargs hr hl hv => by
  have h1 := h { γ with n := 0 } w cargs (empty_rel hr) hl fun i hi => (hv i hi).pure (List.all_eq_true.1 hp _ (List.getElem_mem hi)) fun b i hp => ⟨hp, rfl⟩
  have fin : ∀ cv w', Good T { γ with n := 0 } X0.st.base w (fun v σ => wClean σ v R) cv w' → Good T γ σ.base w (fun v σ' => R v ∧ σ' = σ) cv w' := fun cv w' ⟨v, σ', γ', k1, k2, k3, k4, k5⟩ => by
    obtain ⟨r, hk, hvr⟩ := clean_sound (γ := γ) k3 (n := 0) k4.symm k1 k5
    obtain ⟨hst, hrel⟩ := drop_step0 hr k2 k3
    exact ⟨r, σ, _, hvr, hst, hrel, rfl, hk, rfl⟩
  unfold CallRes at h1 ⊢
  split at h1
  · exact fin _ _ h1
  · exact fin _ _ h1
  · exact Calls.mono h1 fun e w'' ⟨cv, he, hg⟩ => ⟨cv, he, fin _ _ hg⟩
  · exact h1.elim

/-! ### A table of memos -/

abbrev MemoT := List (List AV × AV)

noncomputable def findMemo {R : Type} (t : MemoT) (args : List AV) (some' : AV → R) (none' : R) : R :=
  List.rec (motive := fun _ => R) none' (fun p _ ih => match avsEq p.1 args with
    | true => some' p.2
    | false => ih) t

/-- All rows of a table are right. -/
def MemoOk (P : Program) (T : Tab) (f : FuncId) (t : MemoT) : Prop := ∀ p ∈ t, ∀ σ, ACall P T f p.1 σ fun v σ' => v = p.2 ∧ σ' = σ

theorem findMemo_ok {f : FuncId} {x : X} {K : AV → X → Prop} {Fb : Prop} {args : List AV} : ∀ {t : MemoT}, MemoOk P T f t → findMemo t args (fun v => K v x) Fb → ACall P T f args x.st (GoOn K) ∨ Fb
  | [], _, h => .inr h
  | p :: t, hm, h => by
    have h' : (match avsEq p.1 args with
      | true => K p.2 x
      | false => findMemo t args (fun v => K v x) Fb) := h
    clear h
    split at h'
    · rename_i he
      have he' := avsEq_eq he
      subst he'
      exact .inl (C_mono (hm p (List.mem_cons_self ..) _) fun v σ ⟨h1, h2⟩ => ⟨x, h2.symm, by rw [h1]; exact h'⟩)
    · exact findMemo_ok (fun p hp => hm p (List.mem_cons_of_mem _ hp)) h'

end Go.Proofs.QQ
end
section
set_option linter.unusedVariables false
set_option linter.unusedSimpArgs false
namespace Go.Proofs.QQ
open Go

variable {P : Program} {T : Tab}

/-! ### What a call gives, cleaned -/

section
variable {R : Type} (bot : R)

noncomputable def xCleanS (x : X) (v : AV) (K : AV → R) : R :=
  match v with
  | .ms o g off len esz => match Nat.ble x.base o with
    | true => xRow bot o g x fun cells _ => fList ((cells.drop off).take (Nat.mul len esz)) fun xs => match xs.all pureS with
      | true => K (.sl false len xs)
      | false => bot
    | false => bot
  | .ptr .. | .mp _ | .it _ | .agg _ | .tup _ | .ifc .. => bot
  | .fn f [] [] => K (.fn f [] [])
  | .fn .. => bot
  | v => K v

noncomputable def xCleanL (x : X) (l : List AV) : (List AV → R) → R :=
  List.rec (motive := fun _ => (List AV → R) → R) (fun K => K []) (fun v _ ih K => xCleanS bot x v fun v' => ih fun vs' => K (v' :: vs')) l

noncomputable def xCleanV (x : X) (v : AV) (K : AV → R) : R :=
  match v with
  | .agg cs => xCleanL bot x cs fun cs' => K (.agg cs')
  | v => xCleanS bot x v K

noncomputable def xCleanT (x : X) (l : List AV) : (List AV → R) → R :=
  List.rec (motive := fun _ => (List AV → R) → R) (fun K => K []) (fun v _ ih K => xCleanV bot x v fun v' => ih fun vs' => K (v' :: vs')) l

noncomputable def xClean (x : X) (v : AV) (K : AV → R) : R :=
  match v with
  | .tup vs => xCleanT bot x vs fun vs' => K (.tup vs')
  | v => xCleanV bot x v K
end

section
variable {x : X}

theorem cleanS_x {v : AV} {K : AV → Prop} (h : xCleanS False x v K) : wCleanS x.st v K := by
  unfold xCleanS at h
  unfold wCleanS
  cases v <;> simp only at h ⊢
  case ms o g off len esz =>
    split at h
    case h_2 => exact h.elim
    rename_i hb
    obtain ⟨cells, wm, h1, h2, h⟩ := row_x h
    rw [fList_eq] at h
    split at h
    case h_2 => exact h.elim
    rename_i hp
    exact ⟨cells, wm, _, Nat.le_of_ble_eq_true hb, h1, h2, rfl, hp, h⟩
  case fn f a b =>
    cases a <;> cases b <;> exact h
  all_goals exact h

theorem cleanL_x : ∀ (l : List AV) {K : List AV → Prop}, xCleanL False x l K → wCleanL x.st l K
  | [], K, h => h
  | v :: l, K, h => by
    have h : xCleanS False x v fun v' => xCleanL False x l fun vs' => K (v' :: vs') := h
    have mono : ∀ {v : AV} {K K' : AV → Prop}, (∀ v, K v → K' v) → wCleanS x.st v K → wCleanS x.st v K' := by
      intro v K K' hk h
      unfold wCleanS at h ⊢
      split at h
      case h_1 => obtain ⟨c, wm, xs, h1, h2, h3, h4, h5, h6⟩ := h; exact ⟨c, wm, xs, h1, h2, h3, h4, h5, hk _ h6⟩
      all_goals first | exact hk _ h | exact h
    exact mono (fun v' h => cleanL_x l h) (cleanS_x h)

theorem cleanV_x {v : AV} {K : AV → Prop} (h : xCleanV False x v K) : wCleanV x.st v K := by
  unfold xCleanV at h
  unfold wCleanV
  cases v
  case agg cs => exact cleanL_x cs h
  all_goals exact cleanS_x h

theorem wCleanS_imp {σ : St} {v : AV} {K K' : AV → Prop} (hk : ∀ v, K v → K' v) : wCleanS σ v K → wCleanS σ v K' := by
  intro h
  unfold wCleanS at h ⊢
  split at h
  case h_1 => obtain ⟨c, wm, xs, h1, h2, h3, h4, h5, h6⟩ := h; exact ⟨c, wm, xs, h1, h2, h3, h4, h5, hk _ h6⟩
  all_goals first | exact hk _ h | exact h

theorem wCleanL_imp {σ : St} : ∀ (l : List AV) {K K' : List AV → Prop}, (∀ v, K v → K' v) → wCleanL σ l K → wCleanL σ l K'
  | [], K, K', hk, h => hk _ h
  | v :: l, K, K', hk, h => wCleanS_imp (fun v' h => wCleanL_imp l (fun vs => hk _) h) h

theorem wCleanV_imp {σ : St} {v : AV} {K K' : AV → Prop} (hk : ∀ v, K v → K' v) : wCleanV σ v K → wCleanV σ v K' := by
  intro h
  unfold wCleanV at h ⊢
  split at h
  · exact wCleanL_imp _ (fun cs => hk _) h
  · exact wCleanS_imp hk h

theorem cleanT_x : ∀ (l : List AV) {K : List AV → Prop}, xCleanT False x l K → wCleanT x.st l K
  | [], K, h => h
  | v :: l, K, h => wCleanV_imp (fun v' h => cleanT_x l h) (cleanV_x h)

theorem clean_x {v : AV} {K : AV → Prop} (h : xClean False x v K) : wClean x.st v K := by
  unfold xClean at h
  unfold wClean
  cases v
  case tup vs => exact cleanT_x vs h
  all_goals exact cleanV_x h
end

/-! ### Memos -/

/-- A closed call, run in the empty state, gives this. -/
def memo1 (call : Caller) (f : FuncId) (args : List AV) (r : AV) : Prop :=
  match args.all pureS with
  | true => call f args X0 fun v x => xClean False x v fun v' => match avEq v' r with
    | true => True
    | false => False
  | false => False

/-- A memo: said by an equation, so that nobody looks into it. -/
structure Memo1 (call : Caller) (f : FuncId) (args : List AV) (r : AV) : Prop where
  out : memo1 call f args r = True

theorem wClean_imp {σ : St} {v : AV} {K K' : AV → Prop} (hk : ∀ v, K v → K' v) : wClean σ v K → wClean σ v K' := by
  have wT : ∀ (l : List AV) {K K' : List AV → Prop}, (∀ v, K v → K' v) → wCleanT σ l K → wCleanT σ l K' := by
    intro l
    induction l with
    | nil => exact fun hk h => hk _ h
    | cons v l ih => exact fun hk h => wCleanV_imp (fun v' h => ih (fun vs => hk _) h) h
  intro h
  unfold wClean at h ⊢
  split at h
  · exact wT _ (fun cs => hk _) h
  · exact wCleanV_imp hk h

theorem memo_of {call : Caller} (hc : CallOk P T call) {f : FuncId} {args : List AV} {r : AV} (h : memo1 call f args r) (σ : St) : ACall P T f args σ fun v σ' => v = r ∧ σ' = σ := by
  unfold memo1 at h
  split at h
  case h_2 => exact h.elim
  rename_i hp
  refine C_memo (R := fun v => v = r) hp (C_mono (hc _ _ _ _ h) fun v σ' ⟨x, hx, hk⟩ => ?_) σ
  subst hx
  refine wClean_imp (fun v' h => ?_) (clean_x hk)
  split at h
  · rename_i he; exact avEq_eq he
  · exact h.elim

theorem MemoOk.nil {f : FuncId} : MemoOk P T f [] := fun p hp => absurd hp (by simp)
theorem MemoOk.cons {call : Caller} {f : FuncId} {args : List AV} {r : AV} {t : MemoT} (hc : CallOk P T call) (h : Memo1 call f args r) (ht : MemoOk P T f t) : MemoOk P T f ((args, r) :: t) := fun p hp => by
  rcases List.mem_cons.1 hp with rfl | hp
  · exact memo_of hc (of_eq_true h.out)
  · exact ht p hp

/-! ### Trees by numbers -/

inductive NT (α : Type) where
  | no
  | leaf (k : Nat) (x : α)
  | node (k : Nat) (a b : NT α)

noncomputable def NT.find {α β : Type} (tr : NT α) (t : Nat) (d : β) (K : α → β) : β :=
  NT.rec (motive := fun _ => β) d (fun k x => Bool.rec (motive := fun _ => β) d (K x) (Nat.beq t k)) (fun k _ _ fa fb => Bool.rec (motive := fun _ => β) fa fb (Nat.ble k t)) tr

def NT.All {α : Type} (p : Nat → α → Prop) : NT α → Prop
  | .no => True
  | .leaf k x => p k x
  | .node _ a b => a.All p ∧ b.All p

theorem NT.find_ok {α β : Type} {p : Nat → α → Prop} {tr : NT α} (h : tr.All p) (t : Nat) (d : β) (K : α → β) : tr.find t d K = d ∨ ∃ x, p t x ∧ tr.find t d K = K x := by
  induction tr with
  | no => exact .inl rfl
  | leaf k x =>
    show Bool.rec (motive := fun _ => β) d (K x) (Nat.beq t k) = d ∨ ∃ y, p t y ∧ Bool.rec (motive := fun _ => β) d (K x) (Nat.beq t k) = K y
    cases hb : Nat.beq t k
    · exact .inl rfl
    · obtain rfl := Nat.eq_of_beq_eq_true hb
      exact .inr ⟨x, h, rfl⟩
  | node k a b iha ihb =>
    show Bool.rec (motive := fun _ => β) (a.find t d K) (b.find t d K) (Nat.ble k t) = d ∨ ∃ y, p t y ∧ Bool.rec (motive := fun _ => β) (a.find t d K) (b.find t d K) (Nat.ble k t) = K y
    cases Nat.ble k t
    · exact iha h.1
    · exact ihb h.2

abbrev Ext := List AV → X → (AV → X → Prop) → Prop
def ExtOk (P : Program) (T : Tab) (f : FuncId) (e : Ext) : Prop := ∀ args x K, e args x K → ACall P T f args x.st (GoOn K)

noncomputable def oraOf (ext : NT Ext) (memos : NT MemoT) (f : FuncId) (args : List AV) (x : X) (K : AV → X → Prop) (fb : Prop) : Prop :=
  ext.find f (memos.find f fb fun t => findMemo t args (fun v => K v x) fb) fun e => e args x K

theorem oraOf_ok {ext : NT Ext} {memos : NT MemoT} (he : ext.All (ExtOk P T)) (hm : memos.All (MemoOk P T)) : OraOk P T (oraOf ext memos) := fun f args x K fb h => by
  unfold oraOf at h
  rcases NT.find_ok he f (memos.find f fb fun t => findMemo t args (fun v => K v x) fb) (fun e => e args x K) with h1 | ⟨e, he', h1⟩
  · rw [h1] at h
    rcases NT.find_ok hm f fb (fun t => findMemo t args (fun v => K v x) fb) with h2 | ⟨t, ht, h2⟩
    · rw [h2] at h; exact .inr h
    · rw [h2] at h; exact findMemo_ok ht h
  · rw [h1] at h
    exact .inl (he' _ _ _ h)

/-- The machine of a seat. -/
noncomputable def seatCall (T : Tab) (fns : NT XG) (ext : NT Ext) (memos : NT MemoT) (rounds fuel : Nat) : Caller :=
  xRunO False T (fun f => fns.find f none some) (oraOf ext memos) rounds fuel

theorem seatCall_ok (ok : TabOk P T) (pe : PeqOk P T) (mx : P.follows .mixedOrders = true) {fns : NT XG} (hf : fns.All (XGOk P)) {ext : NT Ext} (he : ext.All (ExtOk P T)) {memos : NT MemoT} (hm : memos.All (MemoOk P T)) (rounds fuel : Nat) :
    CallOk P T (seatCall T fns ext memos rounds fuel) := by
  refine run_x ok pe mx (fun f g hg => ?_) (oraOf_ok he hm) rounds fuel
  rcases NT.find_ok hf f none some with h | ⟨g', h1, h2⟩
  · rw [h] at hg; cases hg
  · rw [h2] at hg
    obtain rfl := Option.some.inj hg
    exact h1

/-! ### Functions without a body -/

/-- A function of the runtime. -/
structure BareOk (P : Program) (f : FuncId) (e : Array Value → Sem Value) : Prop where
  out : ∃ fn, P.funcs[f]? = some fn ∧ (fn.name == "runtime.NumGoroutine") = false ∧ fn.body.isNone = true ∧ Extern.findNext fn = none ∧ Extern.find fn = some e

theorem bare_run {f : FuncId} {e : Array Value → Sem Value} (h : BareOk P f e) (args : Array Value) (w : World) : (callFunc f args).run P w = ((e args).run P w).andThen fun v w' => .ok (.value v) w' := by
  obtain ⟨fn, h1, h2, h3, h4, h5⟩ := h.out
  exact run_callFunc_extern h1 h2 h3 h4 h5 args w

theorem args_one {γ : Gh} {w : World} {a : AV} {cargs : Array Value} (hl : cargs.size = [a].length) (hv : ∀ i (h : i < [a].length), VRel γ w [a][i] (cargs.getD i undef)) : ∃ v, cargs = #[v] ∧ VRel γ w a v := by
  obtain ⟨l⟩ := cargs
  match l, hl with
  | [v], _ => exact ⟨v, rfl, by simpa using hv 0 (by simp)⟩

theorem args_two {γ : Gh} {w : World} {a b : AV} {cargs : Array Value} (hl : cargs.size = [a, b].length) (hv : ∀ i (h : i < [a, b].length), VRel γ w [a, b][i] (cargs.getD i undef)) : ∃ v u, cargs = #[v, u] ∧ VRel γ w a v ∧ VRel γ w b u := by
  obtain ⟨l⟩ := cargs
  match l, hl with
  | [v, u], _ => exact ⟨v, u, rfl, by simpa using hv 0 (by simp), by simpa using hv 1 (by simp)⟩

theorem find_congr {α : Type} {p q : α → Bool} : ∀ {l : List α}, (∀ a ∈ l, p a = q a) → l.find? p = l.find? q
  | [], _ => rfl
  | a :: l, h => by
    rw [List.find?_cons, List.find?_cons, h a (List.mem_cons_self ..), find_congr fun b hb => h b (List.mem_cons_of_mem _ hb)]

noncomputable def idxFrom (l : List UInt8) (c : Nat) : Nat → Int :=
  List.rec (motive := fun _ => Nat → Int) (fun _ => Int.negSucc 0) (fun a _ ih i => match Nat.beq a.toNat c with
    | true => Int.ofNat i
    | false => ih (Nat.succ i)) l

theorem idxFrom_eq (c : Nat) (hc : c < 256) : ∀ (l : List UInt8) (k : Nat), idxFrom l c k = match (List.range' k l.length).find? fun i => (l.getD (i - k) 0) == c.toUInt8 with | some i => (i : Int) | none => -1 := by
  intro l
  induction l with
  | nil => intro k; rfl
  | cons a l ih =>
    intro k
    have step : idxFrom (a :: l) c k = match Nat.beq a.toNat c with
      | true => Int.ofNat k
      | false => idxFrom l c (k + 1) := rfl
    rw [step]
    have hiff : (a == c.toUInt8) = Nat.beq a.toNat c := by
      rw [Bool.eq_iff_iff, beq_iff_eq, Nat.beq_eq]
      constructor
      · rintro rfl; simp [Nat.toUInt8, UInt8.toNat_ofNat]; omega
      · intro h; rw [← h]; simp
    simp only [List.length_cons, List.range'_succ, List.find?_cons, Nat.sub_self, List.getD_cons_zero, hiff]
    cases Nat.beq a.toNat c with
    | true => rfl
    | false =>
      simp only
      rw [ih (k + 1)]
      have : (List.range' (k + 1) l.length).find? (fun i => l.getD (i - (k + 1)) 0 == c.toUInt8) = (List.range' (k + 1) l.length).find? (fun i => (a :: l).getD (i - k) 0 == c.toUInt8) := by
        apply find_congr
        intro i hi
        have : k + 1 ≤ i := by simp at hi; omega
        have e : i - k = (i - (k + 1)) + 1 := by omega
        rw [e, List.getD_cons_succ]
      rw [this]

noncomputable def extIndex : Ext := fun args x K =>
  match args with
  | [.str s, .int .u8 (.ofNat c)] => match Nat.blt c 256 with
    | true => K (.int .i64 (idxFrom s c 0)) x
    | false => False
  | _ => False

noncomputable def cntFrom (l : List UInt8) (c : Nat) : Nat → Nat :=
  List.rec (motive := fun _ => Nat → Nat) (fun n => n) (fun a _ ih n => match Nat.beq a.toNat c with
    | true => ih (Nat.succ n)
    | false => ih n) l

noncomputable def extCount : Ext := fun args x K =>
  match args with
  | [.str s, .int .u8 (.ofNat c)] => match Nat.blt c 256 with
    | true => fNat (cntFrom s c 0) fun n => K (.int .i64 (Int.ofNat n)) x
    | false => False
  | _ => False

def extSame : Ext := fun args x K =>
  match args with
  | [v] => K v x
  | _ => False

noncomputable def extMake (e : TypeId) : Ext := fun args x K =>
  match args with
  | [.int .i64 (.ofNat n)] => match Nat.ble n 281474976710656 with
    | true => x.pushK False (.row [] 0 0) (some e) fun o x' => K (.ms o 0 0 n 1) x'
    | false => False
  | _ => False

theorem same_ok {f : FuncId} (h : BareOk P f Extern.AbiNoEscape.same) : ExtOk P T f extSame := fun args x K hx => by
  unfold extSame at hx
  split at hx
  case h_2 => exact hx.elim
  intro γ w cargs hr hl hv
  obtain ⟨cv, hc, hv1⟩ := args_one hl hv
  rw [hc, bare_run h, Lib.run_noEscape]
  exact ⟨_, _, γ, hv1, Step.refl _ _ _, hr, rfl, x, rfl, hx⟩

theorem toUInt8_of (c : Nat) (hc : c < 256) : ((c : Int).toNat.toUInt8) = c.toUInt8 := by simp

theorem index_ok {f : FuncId} (h : BareOk P f Extern.BytealgIndexByte.indexByte) : ExtOk P T f extIndex := fun args x K hx => by
  unfold extIndex at hx
  split at hx
  case h_2 => exact hx.elim
  rename_i s c
  split at hx
  case h_2 => exact hx.elim
  rename_i hb
  have hc : c < 256 := by simpa [Nat.blt_eq] using hb
  intro γ w cargs hr hl hv
  obtain ⟨v, u, hcs, hv1, hv2⟩ := args_two hl hv
  cases hv1; cases hv2
  have e : firstIdx ⟨s.toArray⟩ ((Int.ofNat c).toNat.toUInt8) = idxFrom s c 0 := by
    rw [idxFrom_eq c hc s 0]
    unfold firstIdx
    have : (List.range (ByteArray.mk s.toArray).size).find? (fun i => (ByteArray.mk s.toArray)[i]! == (Int.ofNat c).toNat.toUInt8) = (List.range' 0 s.length).find? fun i => (s.getD (i - 0) 0) == c.toUInt8 := by
      rw [← List.range_eq_range']
      apply find_congr
      intro i hi
      have hi' : i < s.length := by simpa [ByteArray.size] using hi
      have h1 : (ByteArray.mk s.toArray)[i]! = s.getD i 0 := by
        have hs : i < (ByteArray.mk s.toArray).size := by simpa [ByteArray.size] using hi'
        rw [getElem!_pos _ i hs]
        simp [ByteArray.getElem_eq_getElem_data, List.getD_eq_getElem?_getD, hi']
      rw [h1]; rfl
    rw [this]
    cases (List.range' 0 s.length).find? fun i => (s.getD (i - 0) 0) == c.toUInt8 <;> rfl
  rw [hcs, bare_run h, run_indexByte_string, e]
  exact ⟨_, _, γ, .int _ _, Step.refl _ _ _, hr, rfl, x, rfl, hx⟩

theorem cntFrom_eq (c : Nat) (hc : c < 256) : ∀ (l : List UInt8) (n : Nat), cntFrom l c n = n + l.count c.toUInt8 := by
  intro l
  induction l with
  | nil => intro n; rfl
  | cons a l ih =>
    intro n
    have step : cntFrom (a :: l) c n = match Nat.beq a.toNat c with
      | true => cntFrom l c (n + 1)
      | false => cntFrom l c n := rfl
    have hiff : (a == c.toUInt8) = Nat.beq a.toNat c := by
      rw [Bool.eq_iff_iff, beq_iff_eq, Nat.beq_eq]
      constructor
      · rintro rfl; simp [Nat.toUInt8, UInt8.toNat_ofNat]; omega
      · intro h; rw [← h]; simp
    rw [step, List.count_cons, hiff]
    cases Nat.beq a.toNat c with
    | true => simp only [if_true]; rw [ih]; omega
    | false => simp only [Bool.false_eq_true, if_false]; rw [ih]; omega

theorem run_count {s : List UInt8} {c : Nat} (hc : c < 256) (w : World) : (Extern.BytealgCount.count #[.string ⟨s.toArray⟩, .int .u8 (Int.ofNat c)]).run P w = .ok (.int .i64 (Int.ofNat (cntFrom s c 0))) w := by
  rw [Lib.run_countString, cntFrom_eq c hc]
  have e : (Int.ofNat c).toNat.toUInt8 = c.toUInt8 := rfl
  rw [e]
  simp [Lib.countByte]

theorem count_ok {f : FuncId} (h : BareOk P f Extern.BytealgCount.count) : ExtOk P T f extCount := fun args x K hx => by
  unfold extCount at hx
  split at hx
  case h_2 => exact hx.elim
  rename_i s c
  split at hx
  case h_2 => exact hx.elim
  rename_i hb
  have hc : c < 256 := by simpa [Nat.blt_eq] using hb
  intro γ w cargs hr hl hv
  obtain ⟨v, u, hcs, hv1, hv2⟩ := args_two hl hv
  cases hv1; cases hv2
  rw [fNat_eq] at hx
  rw [hcs, bare_run h, run_count hc]
  exact ⟨_, _, γ, .int _ _, Step.refl _ _ _, hr, rfl, x, rfl, hx⟩

theorem make_ok {f : FuncId} {ps : Array TypeId} {t e : TypeId} (ht : P.underlying t = some (.slice e)) (h : BareOk P f (Extern.BytealgMakeNoZero.makeNoZero ps #[t])) : ExtOk P T f (extMake e) := fun args x K hx => by
  unfold extMake at hx
  split at hx
  case h_2 => exact hx.elim
  rename_i n
  split at hx
  case h_2 => exact hx.elim
  rename_i hb
  have hn : n ≤ 281474976710656 := Nat.le_of_ble_eq_true hb
  obtain ⟨x', hk, hx'⟩ := X.pushK_st hx
  intro γ w cargs hr hl hv
  obtain ⟨v, hcs, hv1⟩ := args_one hl hv
  cases hv1
  obtain ⟨cs, hrun, h1, h2, h3⟩ := Lib.run_makeNoZero_cap (P := P) w ps t e ht n hn
  rw [hcs, bare_run h]
  have hrun' : (Extern.BytealgMakeNoZero.makeNoZero ps #[t] #[.int .i64 (Int.ofNat n)]).run P w = .ok (.slice (some ⟨w.heap.size, 0, none⟩) n cs.size) (w.drew.drew.alloc (.cells cs e)) := hrun
  rw [hrun']
  have f0 : Fresh w w.drew.drew := (Fresh.drew w).trans (Fresh.drew _)
  have f1 : Fresh w (w.drew.drew.alloc (.cells cs e)) := f0.trans (Fresh.alloc _ _)
  have hb : x.st.base ≤ γ.n := hr.n ▸ hr.base
  obtain ⟨hst, hrel⟩ := new_row hr (some e) x.st.base hb f1 cs e (0, 0) (alloc_at _ _ _ _) (fun u hu => ⟨(Option.some.inj hu).symm, .inl rfl⟩) (fun i _ => World.frozen?_alloc_new w.drew.drew cs e i) [] (Nat.zero_le _) (fun i hi => absurd hi (Nat.not_lt_zero _))
  refine ⟨.ms x.st.n 0 0 n 1, x'.st, _, ?_, hst, hx' ▸ hrel, by rw [hx']; rfl, x', rfl, hk⟩
  refine .ms _ _ _ _ _ _ _ (by rw [hr.n]; exact Nat.lt_succ_self _) (Nat.zero_le _) h1 fun _ => ⟨?_, ?_⟩
  · rw [hr.n]; simp [Gh.push]
  · rw [hr.n]; simp [Gh.push]

end Go.Proofs.QQ
end
section
set_option linter.unusedVariables false
set_option linter.unusedSimpArgs false
namespace Go.Proofs.QQ
open Go

variable {P : Program} {T : Tab}

theorem upd_if (e : Env) (t s : Nat) (v : AV) : upd e t v s = if s = t then v else e s := by
  by_cases h : s = t
  · subst h; rw [upd_same]; simp
  · rw [upd_ne _ _ h, if_neg h]

theorem put_some {d N : Nat} {e : Env} {v : AV} {K : Env → Prop} (h : Nat.blt d N = true) (hk : K (upd e d v)) : wPut (some d) N e v K := by
  unfold wPut
  simp only [h]
  exact fv_of hk

theorem ev_tmp {e : Env} {t N : Nat} (h : Nat.blt t N = true) : ev T e N (.tmp t) = e t := by simp [ev, h]
theorem ev_const {e : Env} {N : Nat} (v : Value) : ev T e N (.const v) = ofC v := rfl
theorem ev_func {e : Env} {N : Nat} (f : FuncId) : ev T e N (.func f) = .fn (.func f) [] [] := rfl

theorem wPut_if {d N : Nat} {e : Env} {v : AV} {K : Env → Prop} : wPut (some d) N e v K = if d < N then K (upd e d v) else False := by
  unfold wPut
  by_cases h : d < N
  · have hb : Nat.blt d N = true := by rw [Nat.blt_eq]; exact h
    simp only [hb, if_pos h]
    exact propext ⟨fun h => fv_eq h, fun h => fv_of (K := fun v => K (upd e d v)) h⟩
  · have hb : Nat.blt d N = false := by rw [Bool.eq_false_iff, Ne, Nat.blt_eq]; exact h
    simp only [hb, if_neg h]
theorem wPut_none {N : Nat} {e : Env} {v : AV} {K : Env → Prop} : wPut none N e v K = K e := rfl
theorem ev_if {e : Env} {t N : Nat} : ev T e N (.tmp t) = if t < N then e t else .bad := by
  simp only [ev, Nat.blt_eq]

/-- One operation that nothing guards. -/
theorem ops_none {M : Nat → Bool} {N : Nat} {all rest : List Oper} {o : Oper} {e : Env} {σ : St} {K : Env → St → Prop} (hg : o.guard = none)
    (h : wOp P T (wMt M o.dst) o.op e N σ fun v σ' => wPut o.dst N e v fun e' => wOps P T M N all rest e' σ' K) : wOps P T M N all (o :: rest) e σ K := by
  simp only [wOps, hg]; exact h

/-- One operation that a slot guards, which says yes. -/
theorem ops_yes {M : Nat → Bool} {N : Nat} {all rest : List Oper} {o : Oper} {e : Env} {σ : St} {K : Env → St → Prop} {j d : Nat} {b : Bool} (hg : o.guard = some (j, b)) (hs : slotOf all j = some d) (hb : Nat.blt d N = true) (he : e d = .bool b)
    (h : wOp P T (wMt M o.dst) o.op e N σ fun v σ' => wPut o.dst N e v fun e' => wOps P T M N all rest e' σ' K) : wOps P T M N all (o :: rest) e σ K := by
  simp only [wOps, hg, hs, hb, he, beq_self_eq_true]; exact h

theorem ops_nil {M : Nat → Bool} {N : Nat} {all : List Oper} {e : Env} {σ : St} {K : Env → St → Prop} (h : K e σ) : wOps P T M N all [] e σ K := h

/-- A sequence, its first part run to its end. -/
theorem A_then {N : Nat} {x y : Code} {e : Env} {σ : St} {Q : Exit → Env → St → Prop} (R : Env → St → Prop) (h : ACode P T N x e σ fun ex e σ => ex = .normal ∧ R e σ) (hy : ∀ e σ, R e σ → ACode P T N y e σ Q) : ACode P T N (.seq x y) e σ Q := by
  refine A_seq (A_mono h fun ex e' σ' hr => ?_)
  obtain ⟨rfl, hr⟩ := hr
  exact hy _ _ hr

theorem push_at (σ : St) (x : Obj) (t : Option TypeId) : (σ.push x t).at_ σ.n = x := by simp [St.push]
theorem push_n (σ : St) (x : Obj) (t : Option TypeId) : (σ.push x t).n = σ.n + 1 := rfl
theorem push_base (σ : St) (x : Obj) (t : Option TypeId) : (σ.push x t).base = σ.base := rfl
theorem setT_at (σ : St) (o : Nat) (x : Obj) (t : Option TypeId) : (σ.setT o x t).at_ o = x := by simp [St.setT]
theorem setT_n (σ : St) (o : Nat) (x : Obj) (t : Option TypeId) : (σ.setT o x t).n = σ.n := rfl
theorem setT_base (σ : St) (o : Nat) (x : Obj) (t : Option TypeId) : (σ.setT o x t).base = σ.base := rfl
theorem bar_base (σ : St) : σ.bar.base = σ.n := rfl
theorem bar_n (σ : St) : σ.bar.n = σ.n := rfl

end Go.Proofs.QQ
end
