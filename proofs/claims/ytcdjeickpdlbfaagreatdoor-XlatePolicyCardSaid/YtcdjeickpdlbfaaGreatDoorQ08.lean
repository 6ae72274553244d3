/- A part of the proof that XlatePolicy returns true at every argument: the reader machine and this translation under it. Conditions: those that each theorem bears. -/
import Derived.Test.YtcdjeickpdlbfaaGreatDoorQ07
section
set_option linter.unusedVariables false
set_option linter.unusedSimpArgs false
namespace Go.Proofs.QQ
open Go

variable {P : Program} {T : Tab}

/-- A value, seen to its constructor. -/
def fv (v : AV) (K : AV → Prop) : Prop :=
  match v with
  | .bool b => K (.bool b) | .int k n => K (.int k n) | .str s => K (.str s) | .nilp => K .nilp | .ptr o g off => K (.ptr o g off) | .ip c => K (.ip c) | .nils => K .nils
  | .sl f n c => K (.sl f n c) | .ms o g off n z => K (.ms o g off n z) | .nilm => K .nilm | .mp o => K (.mp o) | .fn f a b => K (.fn f a b) | .nilf => K .nilf | .ifc t v => K (.ifc t v)
  | .nili => K .nili | .agg c => K (.agg c) | .tup vs => K (.tup vs) | .it o => K (.it o) | .bad => K .bad

theorem fv_eq {v : AV} {K : AV → Prop} (h : fv v K) : K v := by cases v <;> exact h

/-- A value laid into a slot. -/
def wPut (dst : Option Nat) (N : Nat) (e : Env) (v : AV) (K : Env → Prop) : Prop :=
  match dst with
  | none => K e
  | some d => match Nat.blt d N with
    | true => fv v fun v => K (upd e d v)
    | false => False

def wMt (M : Nat → Bool) : Option Nat → Bool
  | some d => M d
  | none => false

def slotOf (all : List Oper) (j : Nat) : Option Nat := match all[j]? with | some o => o.dst | none => none

/-- Operations one behind the other. -/
def wOps (P : Program) (T : Tab) (M : Nat → Bool) (N : Nat) (all : List Oper) : List Oper → Env → St → (Env → St → Prop) → Prop
  | [], e, σ, K => K e σ
  | o :: rest, e, σ, K =>
    match o.guard with
    | none => wOp P T (wMt M o.dst) o.op e N σ fun v σ' => wPut o.dst N e v fun e' => wOps P T M N all rest e' σ' K
    | some (j, want) => match slotOf all j with
      | none => False
      | some d => match Nat.blt d N, e d with
        | true, .bool b => match b == want with
          | true => wOp P T (wMt M o.dst) o.op e N σ fun v σ' => wPut o.dst N e v fun e' => wOps P T M N all rest e' σ' K
          | false => wPut o.dst N e undefA fun e' => wOps P T M N all rest e' σ K
        | true, .tup [] => wPut o.dst N e undefA fun e' => wOps P T M N all rest e' σ K
        | _, _ => False

/-- What is so behind a piece of code, in the model's words. -/
def Post (T : Tab) (N : Nat) (γ : Gh) (base : Nat) (w : World) (Q : Exit → Env → St → Prop) (x : Exit) (a' : Act) (w' : World) : Prop :=
  ∃ e' σ' γ', EnvRel γ' w' e' N a' ∧ Step γ base w γ' w' ∧ Rel T.glob γ' σ' w' ∧ σ'.base = base ∧ Q x e' σ'

/-- The judgement on code. -/
def ACode (P : Program) (T : Tab) (N : Nat) (c : Code) (e : Env) (σ : St) (Q : Exit → Env → St → Prop) : Prop :=
  ∀ γ w a, Rel T.glob γ σ w → EnvRel γ w e N a → Code.wp P c (Post T N γ σ.base w Q) a w

theorem upon_of {good : Value → World → Prop} {o : Oper} {a : Act} {next : Act → World → Prop} {Q : Exit → Act → World → Prop} {r : Result Next} (h : CallRes P good r)
    (hn : ∀ cv w', good cv w' → next (a.put o.dst cv) w') : o.upon P a next Q r := by
  unfold CallRes at h
  split at h
  · exact hn _ _ h
  · exact hn _ _ h
  · refine Calls.mono h fun e w'' he => ?_
    obtain ⟨cv, rfl, hg⟩ := he
    exact hn _ _ hg
  · exact h.elim

theorem put_rel {γ : Gh} {w : World} {e : Env} {N : Nat} {a : Act} {dst : Option Nat} {v : AV} {cv : Value} {K : Env → Prop} (he : EnvRel γ w e N a) (hv : VRel γ w v cv) (h : wPut dst N e v K) :
    ∃ e', K e' ∧ EnvRel γ w e' N (a.put dst cv) := by
  unfold wPut at h
  cases dst with
  | none => exact ⟨e, h, he.put_none cv⟩
  | some d =>
    simp only at h
    split at h
    · rename_i hd
      exact ⟨_, fv_eq h, he.put (by simpa [Nat.blt_eq] using hd) hv⟩
    · exact h.elim

theorem ops_sound (ok : TabOk P T) (pe : PeqOk P T) (M : Nat → Bool) (N : Nat) (all : List Oper) (ops : Array Oper) (hall : ops.toList = all) {Q : Exit → Act → World → Prop} {base : Nat} {γ₀ : Gh} {w₀ : World} {K : Env → St → Prop}
    (hQ : ∀ e σ γ w a, EnvRel γ w e N a → Step γ₀ base w₀ γ w → Rel T.glob γ σ w → σ.base = base → K e σ → Q .normal a w) :
    ∀ (rest : List Oper) (e : Env) (σ : St) (γ : Gh) (w : World) (a : Act), EnvRel γ w e N a → Step γ₀ base w₀ γ w → Rel T.glob γ σ w → σ.base = base → wOps P T M N all rest e σ K → wpList P ops Q rest a w
  | [], e, σ, γ, w, a, he, hs, hr, hb, h => hQ e σ γ w a he hs hr hb h
  | o :: rest, e, σ, γ, w, a, he, hs, hr, hb, h => by
    have ih := ops_sound ok pe M N all ops hall (Q := Q) (base := base) (γ₀ := γ₀) (w₀ := w₀) (K := K) hQ rest
    have run : wOp P T (wMt M o.dst) o.op e N σ (fun v σ' => wPut o.dst N e v fun e' => wOps P T M N all rest e' σ' K) → o.wp P a w (wpList P ops Q rest) Q := by
      intro h
      refine upon_of (op_sound ok pe hr he h) fun cv w' hg => ?_
      obtain ⟨v, σ', γ', hv, hst, hr', hb', hk⟩ := hg
      obtain ⟨e', hk', he'⟩ := put_rel (he.mono hst.toEvo) hv hk
      exact ih e' σ' γ' w' _ he' (hs.trans (hb ▸ hst)) hr' (hb'.trans hb) hk'
    simp only [wOps] at h
    simp only [wpList]
    split at h
    · rename_i hg
      rw [if_pos (by simp [Region.wanted, hg])]
      exact .inl (run h)
    · rename_i j want hg
      split at h
      · exact h.elim
      · rename_i d hd
        have h1 : (ops[j]?).bind (·.dst) = some d := by
          unfold slotOf at hd
          rw [← hall, Array.getElem?_toList] at hd
          split at hd
          · rename_i o' ho'; rw [ho']; exact hd
          · cases hd
        have h2 : ∀ {v : AV}, e d = v → d < N → ∃ cv, VRel γ w v cv ∧ a.tmps[d]? = some cv := fun {v} hv hdN => by
          have hts : d < a.tmps.size := by rw [he.1]; exact hdN
          have := he.2.2 d hdN
          rw [hv] at this
          refine ⟨_, this, ?_⟩
          rw [Array.getD_eq_getD_getElem?, Array.getElem?_eq_getElem hts]
          simp
        split at h
        case h_3 => exact h.elim
        case h_2 hlt hed =>
          have hdN : d < N := by simpa [Nat.blt_eq] using hlt
          obtain ⟨cv, hv, h2⟩ := h2 hed hdN
          cases hv
          have hyield : yielded ops a.tmps j = none := by simp [yielded, h1, h2]
          rw [if_neg (by simp [Region.wanted, hg, hyield])]
          obtain ⟨e', hk', he'⟩ := put_rel he .undef h
          exact ih e' σ γ w _ he' hs hr hb hk'
        case h_1 b hlt hed =>
          have hdN : d < N := by simpa [Nat.blt_eq] using hlt
          obtain ⟨cv, hv, h2⟩ := h2 hed hdN
          cases hv
          have hyield : yielded ops a.tmps j = some b := by simp [yielded, h1, h2]
          split at h
          · rename_i hbw
            have : b = want := by simpa using hbw
            subst this
            rw [if_pos (by simp [Region.wanted, hg, hyield])]
            exact .inl (run h)
          · rename_i hbw
            have : b ≠ want := by simpa using hbw
            rw [if_neg (by simp [Region.wanted, hg, hyield, this])]
            obtain ⟨e', hk', he'⟩ := put_rel he .undef h
            exact ih e' σ γ w _ he' hs hr hb hk'

/-! ### The rules of code -/

theorem A_mono {N : Nat} {c : Code} {e : Env} {σ : St} {Q Q' : Exit → Env → St → Prop} (h : ACode P T N c e σ Q) (hq : ∀ x e σ, Q x e σ → Q' x e σ) : ACode P T N c e σ Q' :=
  fun γ w a hr he => wp_mono (h γ w a hr he) fun x a' w' ⟨e', σ', γ', h1, h2, h3, h4, h5⟩ => ⟨e', σ', γ', h1, h2, h3, h4, hq _ _ _ h5⟩

theorem A_region (ok : TabOk P T) (pe : PeqOk P T) (M : Nat → Bool) {N id : Nat} {l : List Oper} {e : Env} {σ : St} {Q : Exit → Env → St → Prop}
    (h : wOps P T M N l l e σ (Q .normal)) : ACode P T N (.region id l.toArray false) e σ Q := fun γ w a hr he => by
  refine wp_region_lit ?_
  refine ops_sound ok pe M N l l.toArray (by simp) (K := Q .normal) (base := σ.base) (γ₀ := γ) (w₀ := w) (fun e' σ' γ' w' a' h1 h2 h3 h4 h5 => ⟨e', σ', γ', h1, h2, h3, h4, h5⟩) l e σ γ w a he (Step.refl _ _ _) hr rfl h

theorem A_skip {N : Nat} {e : Env} {σ : St} {Q : Exit → Env → St → Prop} (h : Q .normal e σ) : ACode P T N .skip e σ Q :=
  fun γ w a hr he => wp_skip ⟨e, σ, γ, he, Step.refl _ _ _, hr, rfl, h⟩
theorem A_ret {N : Nat} {e : Env} {σ : St} {Q : Exit → Env → St → Prop} (h : Q .ret e σ) : ACode P T N .ret e σ Q :=
  fun γ w a hr he => wp_ret ⟨e, σ, γ, he, Step.refl _ _ _, hr, rfl, h⟩
theorem A_exit {N id : Nat} {e : Env} {σ : St} {Q : Exit → Env → St → Prop} (h : Q (.exit id) e σ) : ACode P T N (.exit id) e σ Q :=
  fun γ w a hr he => wp_exit ⟨e, σ, γ, he, Step.refl _ _ _, hr, rfl, h⟩
theorem A_label {N l : Nat} {e : Env} {σ : St} {Q : Exit → Env → St → Prop} (h : Q .normal e σ) : ACode P T N (.label l) e σ Q :=
  fun γ w a hr he => wp_label ⟨e, σ, γ, he, Step.refl _ _ _, hr, rfl, h⟩

/-- Behind the first of two pieces. -/
def thenQ (P : Program) (T : Tab) (N : Nat) (y : Code) (Q : Exit → Env → St → Prop) : Exit → Env → St → Prop
  | .normal, e, σ => ACode P T N y e σ Q
  | x, e, σ => Q x e σ

theorem A_seq {N : Nat} {x y : Code} {e : Env} {σ : St} {Q : Exit → Env → St → Prop} (h : ACode P T N x e σ (thenQ P T N y Q)) : ACode P T N (.seq x y) e σ Q := fun γ w a hr he => by
  refine wp_seq (wp_mono (h γ w a hr he) fun ex a' w' hp => ?_)
  obtain ⟨e', σ', γ', h1, h2, h3, h4, h5⟩ := hp
  cases ex
  case normal =>
    refine wp_mono (h5 γ' w' a' h3 h1) fun ex a'' w'' hp => ?_
    obtain ⟨e2, σ2, γ2, k1, k2, k3, k4, k5⟩ := hp
    exact ⟨e2, σ2, γ2, k1, h2.trans (h4 ▸ k2), k3, k4.trans h4, k5⟩
  all_goals exact ⟨e', σ', γ', h1, h2, h3, h4, h5⟩

/-- A test. -/
theorem A_cond {N : Nat} {c : Operand} {x y : Code} {e : Env} {σ : St} {Q : Exit → Env → St → Prop} {b : Bool} (hc : ev T e N c = .bool b) (ht : b = true → ACode P T N x e σ Q) (hf : b = false → ACode P T N y e σ Q) :
    ACode P T N (.cond c x y) e σ Q := fun γ w a hr he => by
  have hv := ev_rel hr he c
  rw [hc] at hv
  generalize hcv : a.eval c = cv at hv
  cases hv
  refine wp_cond hcv ?_
  cases b
  · exact hf rfl γ w a hr he
  · exact ht rfl γ w a hr he

def blockQ (id : Nat) (Q : Exit → Env → St → Prop) : Exit → Env → St → Prop
  | .exit i, e, σ => if i = id then Q .normal e σ else Q (.exit i) e σ
  | x, e, σ => Q x e σ

theorem A_block {N id : Nat} {c : Code} {e : Env} {σ : St} {Q : Exit → Env → St → Prop} (h : ACode P T N c e σ (blockQ id Q)) : ACode P T N (.block id c) e σ Q := fun γ w a hr he => by
  refine wp_block (wp_mono (h γ w a hr he) fun ex a' w' hp => ?_)
  obtain ⟨e', σ', γ', h1, h2, h3, h4, h5⟩ := hp
  cases ex
  case exit i =>
    simp only [Exit.inBlock, blockQ] at h5 ⊢
    split <;> rename_i hi
    · rw [if_pos hi] at h5; exact ⟨e', σ', γ', h1, h2, h3, h4, h5⟩
    · rw [if_neg hi] at h5; exact ⟨e', σ', γ', h1, h2, h3, h4, h5⟩
  all_goals exact ⟨e', σ', γ', h1, h2, h3, h4, h5⟩

/-- Behind a round of a loop: another one, of fewer. -/
def roundQ (I : Nat → Env → St → Prop) (m : Nat) (Q : Exit → Env → St → Prop) : Exit → Env → St → Prop
  | .normal, e, σ => ∃ m', m' < m ∧ I m' e σ
  | x, e, σ => Q x e σ

/-- A loop, by what holds at its head. -/
theorem A_loop {N : Nat} {c : Code} {e : Env} {σ : St} {Q : Exit → Env → St → Prop} (I : Nat → Env → St → Prop) (m₀ : Nat) (h0 : I m₀ e σ) (round : ∀ m e σ, I m e σ → ACode P T N c e σ (roundQ I m Q)) :
    ACode P T N (.loop c) e σ Q := fun γ w a hr he => by
  let J : Nat → Act → World → Prop := fun m a' w' => ∃ e' σ' γ', EnvRel γ' w' e' N a' ∧ Step γ σ.base w γ' w' ∧ Rel T.glob γ' σ' w' ∧ σ'.base = σ.base ∧ I m e' σ'
  have hfind : ∀ a' w', (∃ m, J m a' w') → ∃ m, J m a' w' ∧ ∀ m', J m' a' w' → m ≤ m' := by
    intro a' w' ⟨m, hm⟩
    induction m using Nat.strongRecOn with
    | _ m ih =>
      by_cases hx : ∃ m', m' < m ∧ J m' a' w'
      · obtain ⟨m', hlt, hj⟩ := hx; exact ih m' hlt hj
      · exact ⟨m, hm, fun m' hj => by
          rcases Nat.lt_or_ge m' m with h | h
          · exact absurd ⟨m', h, hj⟩ hx
          · exact h⟩
  open Classical in
  let μ : Act → World → Nat := fun a' w' => if hx : ∃ m, J m a' w' then (hfind a' w' hx).choose else 0
  refine wp_loop (fun a' w' => ∃ m, J m a' w') μ ⟨m₀, e, σ, γ, he, Step.refl _ _ _, hr, rfl, h0⟩ fun a' w' hI => ?_
  have hμ : μ a' w' = (hfind a' w' hI).choose := dif_pos hI
  obtain ⟨hj, hmin⟩ := (hfind a' w' hI).choose_spec
  rw [← hμ] at hj hmin
  obtain ⟨e', σ', γ', h1, h2, h3, h4, h5⟩ := hj
  refine wp_mono (round _ e' σ' h5 γ' w' a' h3 h1) fun ex a'' w'' hp => ?_
  obtain ⟨e2, σ2, γ2, k1, k2, k3, k4, k5⟩ := hp
  have kst := h2.trans (h4 ▸ k2)
  cases ex
  case normal =>
    obtain ⟨m', hlt, hI'⟩ := k5
    have hex : ∃ m, J m a'' w'' := ⟨m', e2, σ2, γ2, k1, kst, k3, k4.trans h4, hI'⟩
    refine ⟨hex, ?_⟩
    have hμ' : μ a'' w'' = (hfind a'' w'' hex).choose := dif_pos hex
    have hle := (hfind a'' w'' hex).choose_spec.2 m' ⟨e2, σ2, γ2, k1, kst, k3, k4.trans h4, hI'⟩
    rw [← hμ'] at hle
    omega
  all_goals exact ⟨e2, σ2, γ2, k1, kst, k3, k4.trans h4, k5⟩

end Go.Proofs.QQ
end
section
set_option linter.unusedVariables false
set_option linter.unusedSimpArgs false
namespace Go.Proofs.QQ
open Go

variable {P : Program} {T : Tab}

/-- The slots at a function's begin. -/
def env0 (args : List AV) : Env := fun t => match args[t]? with | some v => v | none => undefA

/-- A function's results. -/
def wRes (T : Tab) (N : Nat) (e : Env) (σ : St) : List ResultVar → (List AV → Prop) → Prop
  | [], K => K []
  | .tmp t :: rs, K => match Nat.blt t N with
    | true => wRes T N e σ rs fun vs => K (e t :: vs)
    | false => False
  | .cell t ty :: rs, K => match Nat.blt t N with
    | true => wLoad T ty (e t) σ fun v _ => wRes T N e σ rs fun vs => K (v :: vs)
    | false => False

def tupA : List AV → AV
  | [v] => v
  | vs => .tup vs

/-- What must be so at a function's end. -/
def fnQ (T : Tab) (N : Nat) (rs : List ResultVar) (R : AV → St → Prop) : Exit → Env → St → Prop
  | .normal, e, σ | .ret, e, σ => wRes T N e σ rs fun vs => R (tupA vs) σ
  | _, _, _ => False

theorem load_val (ok : TabOk P T) {γ : Gh} {σ : St} {w : World} (h : Rel T.glob γ σ w) {t : TypeId} {x : AV} {cx : Value} {K : AV → St → Prop} (hx : VRel γ w x cx) (hw : wLoad T t x σ K) :
    ∃ v cv, K v σ ∧ VRel γ w v cv ∧ (do loadVar t (← asAddr cx) : Sem Value).run P w = .ok cv w := by
  cases hx <;> simp only [wLoad] at hw
  case ip cells b off f hp hq hr =>
    obtain ⟨v, cv, hk, hv, hrun⟩ := val_load (P := P) ok (fun i hi => (hp i hi).2) hr hw
    exact ⟨v, cv, hk, hv, by simp [asAddr, hrun, Result.andThen]⟩
  case ptr o g off a ho hg ha =>
    obtain ⟨cells, wm, hlt, hrow, hval⟩ := hw
    obtain ⟨hge, f, hc, hr⟩ := h.cells hlt hrow
    obtain rfl := ha hge.symm
    obtain ⟨v, cv, hk, hv, hrun⟩ := val_load (P := P) (cells := cells.drop off) (b := γ.blk o) (off := off) (f := fun i => f (off + i)) ok (fun i hi => hc _ (by simp at hi; omega))
      (fun i hi => by simp only [List.getElem_drop]; exact hr _ (by simp at hi; omega)) hval
    exact ⟨v, cv, hk, hv, by simp [asAddr, hrun, Result.andThen]⟩

def resF (a : Act) (r : ResultVar) : Sem Value :=
  match r with
  | .tmp t => pure (a.tmps.getD t undef)
  | .cell x t => do loadVar t (← asAddr (a.tmps.getD x undef))

theorem res_sound (ok : TabOk P T) {γ : Gh} {σ : St} {w : World} {N : Nat} {e : Env} {a : Act} (h : Rel T.glob γ σ w) (he : EnvRel γ w e N a) : ∀ (rs : List ResultVar) (K : List AV → Prop), wRes T N e σ rs K →
    ∃ (vs : List AV) (cvs : List Value), K vs ∧ cvs.length = vs.length ∧ (∀ i (h : i < vs.length) (h' : i < cvs.length), VRel γ w vs[i] cvs[i]) ∧
      Sem.run P (rs.mapM (resF a)) w = .ok cvs w
  | [], K, hw => ⟨[], [], hw, rfl, fun i h => absurd h (by simp), rfl⟩
  | .tmp t :: rs, K, hw => by
    simp only [wRes] at hw
    split at hw
    case h_2 => exact hw.elim
    rename_i hlt
    have ht : t < N := by simpa [Nat.blt_eq] using hlt
    obtain ⟨vs, cvs, hk, hl, hr, hrun⟩ := res_sound ok h he rs _ hw
    refine ⟨_, a.tmps.getD t undef :: cvs, hk, by simp [hl], fun i h1 h2 => ?_, ?_⟩
    · cases i with
      | zero => exact he.2.2 t ht
      | succ i => exact hr i (Nat.lt_of_succ_lt_succ h1) (Nat.lt_of_succ_lt_succ h2)
    · simp only [List.mapM_cons, Sem.run_bind, Sem.run_pure, Result.andThen_ok, hrun, resF]
  | .cell t ty :: rs, K, hw => by
    simp only [wRes] at hw
    split at hw
    case h_2 => exact hw.elim
    rename_i hlt
    have ht : t < N := by simpa [Nat.blt_eq] using hlt
    obtain ⟨v, cv, hw, hv, hload⟩ := load_val (P := P) ok h (he.2.2 t ht) hw
    obtain ⟨vs, cvs, hk, hl, hr, hrun⟩ := res_sound ok h he rs _ hw
    refine ⟨_, cv :: cvs, hk, by simp [hl], fun i h1 h2 => ?_, ?_⟩
    · cases i with
      | zero => exact hv
      | succ i => exact hr i (Nat.lt_of_succ_lt_succ h1) (Nat.lt_of_succ_lt_succ h2)
    · have hload' : (resF a (.cell t ty)).run P w = .ok cv w := hload
      simp only [List.mapM_cons, Sem.run_bind, hload', Result.andThen_ok, Sem.run_pure, hrun]

theorem results_sound (ok : TabOk P T) {γ : Gh} {σ : St} {w : World} {N : Nat} {e : Env} {a : Act} {fn : Func} {rs : List ResultVar} (hrs : fn.results.toList = rs) (h : Rel T.glob γ σ w) (he : EnvRel γ w e N a) {R : AV → St → Prop}
    (hw : wRes T N e σ rs fun vs => R (tupA vs) σ) : ∃ v cv, R v σ ∧ VRel γ w v cv ∧ (results fn a.tmps).run P w = .ok cv w := by
  obtain ⟨vs, cvs, hk, hl, hr, hrun⟩ := res_sound ok h he rs _ hw
  have hm : (results fn a.tmps).run P w = .ok (if h : cvs.toArray.size = 1 then cvs.toArray[0] else .tuple cvs.toArray) w := by
    have e1 : results fn a.tmps = (fn.results.mapM (resF a) >>= fun vs => pure (if h : vs.size = 1 then vs[0] else .tuple vs)) := rfl
    rw [e1]
    simp only [Sem.run_bind, Array.mapM_eq_mapM_toList, Sem.run_map, hrs, hrun, Result.andThen_ok, Sem.run_pure]
  refine ⟨_, _, hk, ?_, hm⟩
  cases vs with
  | nil =>
    have : cvs = [] := List.length_eq_zero_iff.1 hl
    subst this
    exact .tup [] _ rfl fun i h => absurd h (by simp)
  | cons v vs => cases vs with
    | nil =>
      obtain ⟨cv, rfl⟩ : ∃ cv, cvs = [cv] := List.length_eq_one_iff.1 hl
      exact hr 0 (by simp) (by simp)
    | cons v2 vs =>
      have hne : ¬ cvs.toArray.size = 1 := by simp [hl]
      rw [dif_neg hne]
      refine .tup _ _ (by rw [List.size_toArray]; exact hl) fun i hi => ?_
      have hi2 : i < cvs.length := by rw [hl]; exact hi
      have : (cvs.toArray).getD i undef = cvs[i] := by
        have hs : i < cvs.toArray.size := by simpa using hi2
        simp only [Array.getD, hs, dif_pos]
        rfl
      rw [this]
      exact hr i hi hi2

/-- A function of the program, its body, its slots and results. -/
structure FnOk (P : Program) (f : FuncId) (c : Code) (N : Nat) (rs : List ResultVar) : Prop where
  out : ∃ fn, P.funcs[f]? = some fn ∧ fn.body = some c ∧ fn.ntmps = N ∧ fn.results.toList = rs ∧ (fn.name == "runtime.NumGoroutine") = false

theorem env0_rel {γ : Gh} {w : World} {args : List AV} {cargs : Array Value} {N : Nat} (hl : cargs.size = args.length) (hN : args.length ≤ N) (hr : ∀ i (h : i < args.length), VRel γ w args[i] (cargs.getD i undef)) :
    EnvRel γ w (env0 args) N { tmps := cargs ++ Array.replicate (N - cargs.size) undef, defers := [] } := by
  refine ⟨by simp; omega, rfl, fun t ht => ?_⟩
  by_cases h1 : t < args.length
  · rw [getD_append_left (by omega)]
    simp only [env0, List.getElem?_eq_getElem h1]
    exact hr t h1
  · rw [getD_append_right (by omega)]
    have e : (Array.replicate (N - cargs.size) undef).getD (t - cargs.size) undef = undef := by
      simp only [Array.getD_eq_getD_getElem?, Array.getElem?_replicate]
      split <;> rfl
    rw [e]
    simp only [env0, List.getElem?_eq_none (Nat.le_of_not_lt h1)]
    exact .undef

/-- How a call of a function with a body begins. -/
theorem enter_run {f : FuncId} {c : Code} {N : Nat} {rs : List ResultVar} (hf : FnOk P f c N rs) (cargs : Array Value) (w : World) : (callFunc f cargs).run P w = .ok (.enter f cargs) w := by
  obtain ⟨fn, h1, h2, h3, h4, h5⟩ := hf.out
  simp only [callFunc, Sem.run_bind, run_program, Result.andThen_ok, h1]
  rw [if_neg (by rw [h5]; simp), if_neg (by simp [h2])]
  rfl

/-- A call by the function's body; what it makes stays. -/
theorem C_open (ok : TabOk P T) {f : FuncId} {c : Code} {N : Nat} {rs : List ResultVar} (hf : FnOk P f c N rs) {args : List AV} (hN : args.length ≤ N) {σ : St} {R : AV → St → Prop}
    (h : ACode P T N c (env0 args) σ (fnQ T N rs R)) : ACall P T f args σ R := fun γ w cargs hr hl hv => by
  rw [enter_run hf]
  obtain ⟨fn, h1, h2, h3, h4, h5⟩ := hf.out
  simp only [CallRes]
  refine calls_of_wp h1 h2 ?_
  rw [h3]
  refine wp_mono (h γ w _ hr (env0_rel hl hN hv)) fun x a' w' hp => ?_
  obtain ⟨e', σ', γ', k1, k2, k3, k4, k5⟩ := hp
  have fin : (wRes T N e' σ' rs fun vs => R (tupA vs) σ') → a'.defers = [] ∧ ∃ v, (results fn a'.tmps).run P w' = .ok v w' ∧ ∃ cv, (Ending.returned v) = .returned cv ∧ Good T γ σ.base w R cv w' := fun hk => by
    obtain ⟨v, cv, hR, hvr, hrun⟩ := results_sound (P := P) ok h4 k3 k1 hk
    exact ⟨k1.2.1, cv, hrun, cv, rfl, v, σ', γ', hvr, k2, k3, k4, hR⟩
  cases x <;> simp only [fnQ] at k5
  · exact fin k5
  · exact fin k5

/-! ### Scoped calls: what they make is dropped, but for the cells of what they give. -/

def wCleanS (σ : St) (v : AV) (K : AV → Prop) : Prop :=
  match v with
  | .ms o g off len esz => ∃ cells wm xs, σ.base ≤ o ∧ o < σ.n ∧ σ.at_ o = .row cells g wm ∧ (cells.drop off).take (len * esz) = xs ∧ xs.all pureS = true ∧ K (.sl false len xs)
  | .ptr .. | .mp _ | .it _ | .agg _ | .tup _ | .ifc .. => False
  | .fn f [] [] => K (.fn f [] [])
  | .fn .. => False
  | v => K v

def wCleanL (σ : St) : List AV → (List AV → Prop) → Prop
  | [], K => K []
  | v :: vs, K => wCleanS σ v fun v' => wCleanL σ vs fun vs' => K (v' :: vs')

def wCleanV (σ : St) (v : AV) (K : AV → Prop) : Prop :=
  match v with
  | .agg cs => wCleanL σ cs fun cs' => K (.agg cs')
  | v => wCleanS σ v K

def wCleanT (σ : St) : List AV → (List AV → Prop) → Prop
  | [], K => K []
  | v :: vs, K => wCleanV σ v fun v' => wCleanT σ vs fun vs' => K (v' :: vs')

def wClean (σ : St) (v : AV) (K : AV → Prop) : Prop :=
  match v with
  | .tup vs => wCleanT σ vs fun vs' => K (.tup vs')
  | v => wCleanV σ v K

/-- The ghost with all objects from n on dropped, their cells protected. -/
def Gh.drop (γ' : Gh) (σ : St) (n : Nat) (γ : Gh) : Gh :=
  { γ with prot := fun b i => γ'.prot b i ∨ ∃ o cells g wm, n ≤ o ∧ o < γ'.n ∧ σ.at_ o = .row cells g wm ∧ b = γ'.blk o ∧ i < cells.length }

section
variable {γ γ' : Gh} {σ' : St} {w' : World}

theorem drop_cell (h : Rel T.glob γ' σ' w') (n : Nat) (b i : Nat) (hp : γ'.prot b i) : (γ'.drop σ' n γ).prot b i ∧ w'.cell? ⟨b, i, none⟩ = w'.cell? ⟨b, i, none⟩ := ⟨.inl hp, rfl⟩

theorem cleanS_sound (h : Rel T.glob γ' σ' w') {n : Nat} (hn : n = σ'.base) {v : AV} {cv : Value} {K : AV → Prop} (hv : VRel γ' w' v cv) (hw : wCleanS σ' v K) : ∃ r, K r ∧ VRel (γ'.drop σ' n γ) w' r cv := by
  have pur : pureS v = true → K v → ∃ r, K r ∧ VRel (γ'.drop σ' n γ) w' r cv := fun hp hk => ⟨v, hk, hv.pure hp fun b i h => drop_cell (T := T) (by assumption) n b i h⟩
  cases hv <;> simp only [wCleanS] at hw
  case ms o g off len esz a cap ho hg hcap ha =>
    obtain ⟨cells, wm, xs, hb, ho', hrow, hxs, hpure, hk⟩ := hw
    obtain ⟨hge, f, hc, hr⟩ := h.cells ho' hrow
    obtain ⟨rfl, hroom⟩ := ha hge.symm
    refine ⟨_, hk, .sl false len xs (γ'.blk o) off cap (fun i => f (off + i)) hcap (by simp) (fun i hi => ?_) (fun i hi => List.all_eq_true.1 hpure _ (List.getElem_mem hi)) fun i hi => ?_⟩
    · have hlt : off + i < cells.length := by rw [← hxs] at hi; simp at hi; omega
      exact ⟨.inr ⟨o, cells, g, wm, by omega, ho, hrow, rfl, hlt⟩, hc _ hlt⟩
    · have hlt : off + i < cells.length := by rw [← hxs] at hi; simp at hi; omega
      have hp1 : pureS xs[i] = true := List.all_eq_true.1 hpure _ (List.getElem_mem hi)
      have hx : xs[i] = cells[off + i] := by
        subst hxs
        simp only [List.getElem_take, List.getElem_drop]
      rw [hx] at hp1 ⊢
      exact (hr _ hlt).pure hp1 fun b i h' => drop_cell (T := T) h n b i h'
  case fn f first captured c1 c2 h1 h2 r1 r2 =>
    cases first with
    | cons _ _ => exact hw.elim
    | nil => cases captured with
      | cons _ _ => exact hw.elim
      | nil => exact pur rfl hw
  all_goals exact pur rfl hw

theorem cleanL_sound (h : Rel T.glob γ' σ' w') {n : Nat} (hn : n = σ'.base) : ∀ (vs : List AV) (f : Nat → Value) (K : List AV → Prop), (∀ i (h : i < vs.length), VRel γ' w' vs[i] (f i)) → wCleanL σ' vs K →
    ∃ rs, K rs ∧ rs.length = vs.length ∧ ∀ i (h : i < rs.length), VRel (γ'.drop σ' n γ) w' rs[i] (f i)
  | [], f, K, hv, hw => ⟨[], hw, rfl, fun i h => absurd h (by simp)⟩
  | v :: vs, f, K, hv, hw => by
    obtain ⟨r, hw, hr⟩ := cleanS_sound h hn (hv 0 (by simp)) hw
    obtain ⟨rs, hk, hl, hrr⟩ := cleanL_sound h hn vs (fun i => f (i + 1)) _ (fun i hi => hv (i + 1) (Nat.succ_lt_succ hi)) hw
    refine ⟨_, hk, by simp [hl], fun i hi => ?_⟩
    cases i with
    | zero => exact hr
    | succ i => exact hrr i (Nat.lt_of_succ_lt_succ hi)

theorem cleanV_sound (h : Rel T.glob γ' σ' w') {n : Nat} (hn : n = σ'.base) {v : AV} {cv : Value} {K : AV → Prop} (hv : VRel γ' w' v cv) (hw : wCleanV σ' v K) : ∃ r, K r ∧ VRel (γ'.drop σ' n γ) w' r cv := by
  unfold wCleanV at hw
  split at hw
  · cases hv
    rename_i cs hl hr
    obtain ⟨rs, hk, hl2, hrr⟩ := cleanL_sound h hn _ _ _ hr hw
    exact ⟨_, hk, .agg _ _ (by omega) hrr⟩
  · exact cleanS_sound h hn hv hw

theorem cleanT_sound (h : Rel T.glob γ' σ' w') {n : Nat} (hn : n = σ'.base) : ∀ (vs : List AV) (f : Nat → Value) (K : List AV → Prop), (∀ i (h : i < vs.length), VRel γ' w' vs[i] (f i)) → wCleanT σ' vs K →
    ∃ rs, K rs ∧ rs.length = vs.length ∧ ∀ i (h : i < rs.length), VRel (γ'.drop σ' n γ) w' rs[i] (f i)
  | [], f, K, hv, hw => ⟨[], hw, rfl, fun i h => absurd h (by simp)⟩
  | v :: vs, f, K, hv, hw => by
    obtain ⟨r, hw, hr⟩ := cleanV_sound h hn (hv 0 (by simp)) hw
    obtain ⟨rs, hk, hl, hrr⟩ := cleanT_sound h hn vs (fun i => f (i + 1)) _ (fun i hi => hv (i + 1) (Nat.succ_lt_succ hi)) hw
    refine ⟨_, hk, by simp [hl], fun i hi => ?_⟩
    cases i with
    | zero => exact hr
    | succ i => exact hrr i (Nat.lt_of_succ_lt_succ hi)

theorem clean_sound (h : Rel T.glob γ' σ' w') {n : Nat} (hn : n = σ'.base) {v : AV} {cv : Value} {K : AV → Prop} (hv : VRel γ' w' v cv) (hw : wClean σ' v K) : ∃ r, K r ∧ VRel (γ'.drop σ' n γ) w' r cv := by
  unfold wClean at hw
  split at hw
  · cases hv
    rename_i cs hl hr
    obtain ⟨rs, hk, hl2, hrr⟩ := cleanT_sound h hn _ _ _ hr hw
    exact ⟨_, hk, .tup _ _ (by omega) hrr⟩
  · exact cleanV_sound h hn hv hw

end

/-- The state with all old objects barred. -/
def St.bar (σ : St) : St := { σ with base := σ.n }

theorem drop_step {γ γ' : Gh} {σ σ' : St} {w w' : World} (h : Rel T.glob γ σ w) (hs : Step γ σ.n w γ' w') (h' : Rel T.glob γ' σ' w') (base : Nat) (hb : base ≤ σ.n) :
    Step γ base w (γ'.drop σ' σ.n γ) w' ∧ Rel T.glob (γ'.drop σ' σ.n γ) σ w' := by
  have hn := h.n
  have same : ∀ o, o < γ.n → γ'.gen o = γ.gen o ∧ γ'.blk o = γ.blk o ∧ γ'.room o = γ.room o := fun o ho => by
    have := hs.old o (by omega) ho
    exact ⟨this, hs.same o ho this⟩
  have hle := hs.n
  have blkne : ∀ o o', o < γ.n → γ.n ≤ o' → o' < γ'.n → γ.blk o ≠ γ'.blk o' := fun o o' h1 h2 h3 he => by
    have := h'.inj o o' (by omega) h3 (by rw [(same o h1).2.1]; exact he)
    omega
  have keep : ∀ o, o < γ.n → w'.heap[γ.blk o]? = w.heap[γ.blk o]? := fun o ho =>
    hs.frame _ (h.lt o ho) fun o' h1 h2 => by omega
  have e : Evo γ w (γ'.drop σ' σ.n γ) w' := {
    n := Nat.le_refl _
    gen := fun o ho => Nat.le_refl _
    same := fun o ho _ => ⟨rfl, rfl⟩
    fix := fun o ho hf => ⟨hf, rfl⟩
    prot := fun b i hp => ⟨.inl (hs.prot b i hp).1, (hs.prot b i hp).2⟩ }
  have oldp : ∀ o i, o < γ.n → (γ'.drop σ' σ.n γ).prot (γ.blk o) i → γ.prot (γ.blk o) i := fun o i ho hp => by
    rcases hp with hp | ⟨o', cells, g, wm, h1, h2, h3, h4, h5⟩
    · exact hs.oldp o i (by omega) ho hp
    · exact absurd h4 (blkne o o' ho (by omega) h2)
  refine ⟨{ e with os := hs.os, tape := hs.tape, output := hs.output, size := hs.size, frame := fun b hb _ => hs.frame b hb fun o h1 h2 => by omega, old := fun o _ ho => rfl, oldp := fun o i _ ho hp => oldp o i ho hp, newp := (fun b i hp => by
    rcases hp with hp | ⟨o', cells, g, wm, h1, h2, h3, h4, h5⟩
    · rcases hs.newp b i hp with h1 | h1 | ⟨o, h1, h2, _⟩
      · exact .inl h1
      · exact .inr (.inl h1)
      · omega
    · rcases hs.new o' h1 h2 with ⟨h6, _⟩ | h6
      · omega
      · exact .inr (.inl (h4 ▸ h6))), new := fun o _ ho => .inl ⟨ho, rfl⟩ }, ?_⟩
  have fr : ∀ o i, o < γ.n → w'.frozen? ⟨γ.blk o, i, none⟩ = w.frozen? ⟨γ.blk o, i, none⟩ := fun o i ho => by simp only [World.frozen?, keep o ho]
  exact {
    n := h.n
    base := h.base
    obj := fun o ho => by
      have hx := h.obj o ho
      cases hso : σ.at_ o with
      | row cells g wm =>
        rw [hso] at hx
        obtain ⟨hg, c, el, frz, hh, hsz, hl, hv, hf, hp⟩ := hx
        exact ⟨hg, c, el, frz, (keep o ho).trans hh, hsz, hl, fun i hi => (hv i hi).mono e, fun i hm hi => (fr o i ho).trans (hf i hm hi), fun i hi => hp i (oldp o i ho hi)⟩
      | map es =>
        rw [hso] at hx
        obtain ⟨hf, ⟨ms, clock, hh, hl, hv, hst⟩, hp⟩ := hx
        exact ⟨hf, ⟨ms, clock, (keep o ho).trans hh, hl, fun i hi => ⟨(hv i hi).1.mono e, (hv i hi).2.mono e⟩, hst⟩, fun i hi => hp i (oldp o i ho hi)⟩
      | iter s pos =>
        rw [hso] at hx
        obtain ⟨hf, hh, hp⟩ := hx
        exact ⟨hf, (keep o ho).trans hh, fun i hi => hp i (oldp o i ho hi)⟩
    inj := h.inj
    lt := fun o ho => Nat.lt_of_lt_of_le (h.lt o ho) hs.size
    prot := fun b i hp => by
      rcases hp with hp | ⟨o', cells, g, wm, h1, h2, h3, h4, h5⟩
      · exact h'.prot b i hp
      · obtain ⟨_, f, hc, _⟩ := h'.cells (h'.n ▸ h2) h3
        rw [h4, hc i h5]; rfl
    glob := fun g cells hg => (h.glob g cells hg).mono e
    ty := fun o t ho ht => by
      obtain ⟨c, frz, hc, hf⟩ := h.ty o t ho ht
      exact ⟨c, frz, (keep o ho).trans hc, hf⟩ }

/-- A call by the function's body; what it makes is dropped, and it may write nothing that was there. -/
theorem C_scoped (ok : TabOk P T) {f : FuncId} {c : Code} {N : Nat} {rs : List ResultVar} (hf : FnOk P f c N rs) {args : List AV} (hN : args.length ≤ N) {σ : St} {R : AV → St → Prop}
    (h : ACode P T N c (env0 args) σ.bar (fnQ T N rs fun v σ' => wClean σ' v fun r => R r σ)) : ACall P T f args σ R := fun γ w cargs hr hl hv => by
  rw [enter_run hf]
  obtain ⟨fn, h1, h2, h3, h4, h5⟩ := hf.out
  simp only [CallRes]
  refine calls_of_wp h1 h2 ?_
  rw [h3]
  have hr' : Rel T.glob γ σ.bar w := ⟨hr.n, Nat.le_refl _, hr.obj, hr.inj, hr.lt, hr.prot, hr.glob, hr.ty⟩
  refine wp_mono (h γ w _ hr' (env0_rel hl hN hv)) fun x a' w' hp => ?_
  obtain ⟨e', σ', γ', k1, k2, k3, k4, k5⟩ := hp
  have fin : (wRes T N e' σ' rs fun vs => wClean σ' (tupA vs) fun r => R r σ) → a'.defers = [] ∧ ∃ v, (results fn a'.tmps).run P w' = .ok v w' ∧ ∃ cv, (Ending.returned v) = .returned cv ∧ Good T γ σ.base w R cv w' := fun hk => by
    obtain ⟨v, cv, hR, hvr, hrun⟩ := results_sound (P := P) (R := fun v σ'' => wClean σ' v fun r => R r σ) ok h4 k3 k1 hk
    obtain ⟨r, hk, hvr'⟩ := clean_sound (γ := γ) k3 (n := σ.n) k4.symm hvr hR
    obtain ⟨hst, hrel⟩ := drop_step hr k2 k3 σ.base hr.base
    exact ⟨k1.2.1, cv, hrun, cv, rfl, r, σ, _, hvr', hst, hrel, rfl, hk⟩
  cases x <;> simp only [fnQ] at k5
  · exact fin k5
  · exact fin k5

theorem C_mono {f : FuncId} {args : List AV} {σ : St} {R R' : AV → St → Prop} (h : ACall P T f args σ R) (hq : ∀ v σ, R v σ → R' v σ) : ACall P T f args σ R' := fun γ w cargs hr hl hv => by
  have := h γ w cargs hr hl hv
  have mono : ∀ cv w', Good T γ σ.base w R cv w' → Good T γ σ.base w R' cv w' := fun cv w' ⟨v, σ', γ', h1, h2, h3, h4, h5⟩ => ⟨v, σ', γ', h1, h2, h3, h4, hq _ _ h5⟩
  unfold CallRes at this ⊢
  split at this
  · exact mono _ _ this
  · exact mono _ _ this
  · exact Calls.mono this fun e w'' ⟨cv, he, hg⟩ => ⟨cv, he, mono _ _ hg⟩
  · exact this.elim

end Go.Proofs.QQ
end
