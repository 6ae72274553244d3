/- A part of the proof that XlatePolicy returns true at every argument: the reader machine and this translation under it. Conditions: those that each theorem bears. -/
import Derived.Test.YtcdjeickpdlbfaaGreatDoorQ08
section
set_option linter.unusedVariables false
set_option linter.unusedSimpArgs false
namespace Go.Proofs.QQ
open Go

variable {P : Program} {T : Tab}

/-- May an operation change the state, or call? -/
def isEff (mt : Bool) : Op → Bool
  | .alloc _ | .store .. => true
  | .box .. | .buildSlice .. | .convert .. => mt
  | .call { callee := .builtin .len, .. } | .call { callee := .builtin .max, .. } | .call { callee := .builtin .min, .. } => false
  | .call _ => true
  | .move _ | .assign _ | .pick .. | .build .. | .load .. | .nilCheck _ | .binOp .. | .unOp .. | .makeInterface .. | .makeFunc .. | .slice .. | .fieldAddr .. | .field .. | .indexAddr .. | .index .. | .extract .. => false
  | _ => true

/-- What an operation that only reads gives: a value, the state left. -/
def Gives (P : Program) (T : Tab) (mt : Bool) (op : Op) (e : Env) (N : Nat) (σ : St) (v : AV) : Prop :=
  wOp P T mt op e N σ fun v' σ' => v' = v ∧ σ' = σ

theorem val_split {t : TypeId} {cells : List AV} {Kv : AV → Prop} (h : valA T t cells Kv) : ∃ v, Kv v ∧ valA T t cells fun v' => v' = v := by
  unfold valA at h ⊢
  split at h
  case h_1 => exact h.elim
  case h_2 h1 => obtain ⟨a, b, c⟩ := h; exact ⟨_, c, a, b, rfl⟩
  case h_3 h1 => obtain ⟨a, b, c⟩ := h; exact ⟨_, c, a, b, rfl⟩
  case h_4 h1 h2 h3 =>
    split at h
    · exact ⟨_, h, rfl⟩
    · exact h.elim

abbrev Only (σ : St) (v : AV) : AV → St → Prop := fun v' σ' => v' = v ∧ σ' = σ

section
variable {σ : St} {K : AV → St → Prop}

theorem load_split {t : TypeId} {x : AV} (h : wLoad T t x σ K) : ∃ v, K v σ ∧ wLoad T t x σ (Only σ v) := by
  unfold wLoad at h ⊢
  split at h
  · obtain ⟨v, hk, hv⟩ := val_split h
    exact ⟨v, hk, by simpa [Only] using hv⟩
  · obtain ⟨cells, wm, h1, h2, h3⟩ := h
    obtain ⟨v, hk, hv⟩ := val_split h3
    exact ⟨v, hk, cells, wm, h1, h2, by simpa [Only] using hv⟩
  · exact h.elim

theorem nil_split {x : AV} (h : wNil x σ K) : ∃ v, K v σ ∧ wNil x σ (Only σ v) := by
  unfold wNil at h ⊢
  split at h <;> first | exact h.elim | exact ⟨_, h, rfl, rfl⟩

theorem build_split {t : TypeId} {parts : List (Nat × AV)} (h : wBuild T t parts σ K) : ∃ v, K v σ ∧ wBuild T t parts σ (Only σ v) := by
  unfold wBuild at h ⊢
  obtain ⟨h0, h⟩ := h
  split at h
  · split at h
    · obtain ⟨h1, h2⟩ := h; exact ⟨_, h2, h0, h1, rfl, rfl⟩
    · exact h.elim
  · split at h
    · obtain ⟨h1, h2⟩ := h; exact ⟨_, h2, h0, h1, rfl, rfl⟩
    · exact h.elim
  · exact h.elim

theorem fieldAddr_split {s : TypeId} {x : AV} {f : Nat} (h : wFieldAddr T s x f σ K) : ∃ v, K v σ ∧ wFieldAddr T s x f σ (Only σ v) := by
  unfold wFieldAddr at h ⊢
  split at h
  · split at h
    · obtain ⟨h0, h⟩ := h
      split at h <;> first | exact h.elim | exact ⟨_, h, h0, rfl, rfl⟩
    · exact h.elim
  · exact h.elim

theorem field_split {s : TypeId} {x : AV} {f : Nat} (h : wField T s x f σ K) : ∃ v, K v σ ∧ wField T s x f σ (Only σ v) := by
  unfold wField at h ⊢
  split at h
  · split at h
    · split at h
      · obtain ⟨v, hk, hv⟩ := val_split h
        exact ⟨v, hk, by simpa [Only] using hv⟩
      · exact h.elim
    · exact h.elim
  · exact h.elim

theorem idx_split {ix : AV} {len : Nat} {Kn : Nat → Prop} (h : wIdx ix len Kn) : ∃ i, Kn i ∧ ∀ Kn', Kn' i → wIdx ix len Kn' := by
  unfold wIdx at h
  split at h
  · obtain ⟨i, h1, h2, h3⟩ := h; exact ⟨i, h3, fun Kn' hk => ⟨i, h1, h2, hk⟩⟩
  · exact h.elim

theorem indexAddr_split {t : TypeId} {x ix : AV} (h : wIndexAddr T t x ix σ K) : ∃ v, K v σ ∧ wIndexAddr T t x ix σ (Only σ v) := by
  unfold wIndexAddr at h ⊢
  split at h
  · obtain ⟨h0, h⟩ := h
    obtain ⟨i, ⟨r, hr, hk⟩, hc⟩ := idx_split h
    exact ⟨_, hk, h0, hc _ ⟨r, hr, rfl, rfl⟩⟩
  · obtain ⟨h0, h⟩ := h
    obtain ⟨i, hk, hc⟩ := idx_split h
    exact ⟨_, hk, h0, hc _ ⟨rfl, rfl⟩⟩
  · obtain ⟨h0, h⟩ := h
    obtain ⟨i, ⟨r, hr, hk⟩, hc⟩ := idx_split h
    exact ⟨_, hk, h0, hc _ ⟨r, hr, rfl, rfl⟩⟩
  · obtain ⟨h0, h⟩ := h
    obtain ⟨i, hk, hc⟩ := idx_split h
    exact ⟨_, hk, h0, hc _ ⟨rfl, rfl⟩⟩
  · exact h.elim

theorem index_split {t : TypeId} {x ix : AV} (h : wIndex T t x ix σ K) : ∃ v, K v σ ∧ wIndex T t x ix σ (Only σ v) := by
  unfold wIndex at h ⊢
  split at h
  · obtain ⟨h0, h⟩ := h
    obtain ⟨i, hv, hc⟩ := idx_split h
    obtain ⟨v, hk, hv'⟩ := val_split hv
    exact ⟨_, hk, h0, hc _ (by simpa [Only] using hv')⟩
  · obtain ⟨i, ⟨c, hc1, hk⟩, hc⟩ := idx_split h
    exact ⟨_, hk, hc _ ⟨c, hc1, rfl, rfl⟩⟩
  · exact h.elim

theorem bnd_split {b : Option AV} {d : Nat} {Kn : Nat → Prop} (h : wBnd b d Kn) : ∃ i, Kn i ∧ ∀ Kn', Kn' i → wBnd b d Kn' := by
  unfold wBnd at h
  split at h
  · exact ⟨d, h, fun _ hk => hk⟩
  · obtain ⟨i, h1, h2⟩ := h; exact ⟨i, h2, fun _ hk => ⟨i, h1, hk⟩⟩
  · exact h.elim

theorem slice_split {t : TypeId} {x : AV} {lo hi mx : Option AV} (h : wSlice T t x lo hi mx σ K) : ∃ v, K v σ ∧ wSlice T t x lo hi mx σ (Only σ v) := by
  unfold wSlice at h ⊢
  split at h
  · obtain ⟨a, h, ca⟩ := bnd_split h
    obtain ⟨b, ⟨h1, h2, r, h3, hk⟩, cb⟩ := bnd_split h
    exact ⟨_, hk, ca _ (cb _ ⟨h1, h2, r, h3, rfl, rfl⟩)⟩
  · obtain ⟨h0, h⟩ := h
    obtain ⟨a, h, ca⟩ := bnd_split h
    obtain ⟨b, ⟨h1, h2, r, h3, hk⟩, cb⟩ := bnd_split h
    exact ⟨_, hk, h0, ca _ (cb _ ⟨h1, h2, r, h3, rfl, rfl⟩)⟩
  · obtain ⟨h0, h⟩ := h
    obtain ⟨m, h, cm⟩ := bnd_split h
    obtain ⟨a, h, ca⟩ := bnd_split h
    obtain ⟨b, ⟨h1, h2, h3, h4, r, h5, hk⟩, cb⟩ := bnd_split h
    exact ⟨_, hk, h0, cm _ (ca _ (cb _ ⟨h1, h2, h3, h4, r, h5, rfl, rfl⟩))⟩
  · obtain ⟨h0, h⟩ := h
    obtain ⟨a, h, ca⟩ := bnd_split h
    obtain ⟨b, ⟨h1, h2, hk⟩, cb⟩ := bnd_split h
    exact ⟨_, hk, h0, ca _ (cb _ ⟨h1, h2, rfl, rfl⟩)⟩
  · obtain ⟨h0, h00, h⟩ := h
    obtain ⟨a, h, ca⟩ := bnd_split h
    obtain ⟨b, ⟨h1, h2, ⟨h3, hk⟩ | ⟨h3, h4, h5, hk⟩⟩, cb⟩ := bnd_split h
    · exact ⟨_, hk, h0, h00, ca _ (cb _ ⟨h1, h2, .inl ⟨h3, rfl, rfl⟩⟩)⟩
    · exact ⟨_, hk, h0, h00, ca _ (cb _ ⟨h1, h2, .inr ⟨h3, h4, h5, rfl, rfl⟩⟩)⟩
  · obtain ⟨h0, h00, h⟩ := h
    obtain ⟨m, h, cm⟩ := bnd_split h
    obtain ⟨a, h, ca⟩ := bnd_split h
    obtain ⟨b, ⟨h1, h2, h3, h4, h5, hk⟩, cb⟩ := bnd_split h
    exact ⟨_, hk, h0, h00, cm _ (ca _ (cb _ ⟨h1, h2, h3, h4, h5, rfl, rfl⟩))⟩
  · obtain ⟨h0, h⟩ := h
    obtain ⟨a, h, ca⟩ := bnd_split h
    obtain ⟨b, ⟨h1, h2, r, h3, hk⟩, cb⟩ := bnd_split h
    exact ⟨_, hk, h0, ca _ (cb _ ⟨h1, h2, r, h3, rfl, rfl⟩)⟩
  · obtain ⟨h0, h⟩ := h
    obtain ⟨a, h, ca⟩ := bnd_split h
    obtain ⟨b, ⟨h1, h2, h3, c, wm, h4, h5, h6, hk⟩, cb⟩ := bnd_split h
    exact ⟨_, hk, h0, ca _ (cb _ ⟨h1, h2, h3, c, wm, h4, h5, h6, rfl, rfl⟩)⟩
  · exact h.elim

theorem bin_split {op : BinOp} {t : TypeId} {x y : AV} (h : wBin T op t x y σ K) : ∃ v, K v σ ∧ wBin T op t x y σ (Only σ v) := by
  unfold wBin at h ⊢
  split at h
  · split at h
    · exact ⟨_, h.2, h.1, rfl, rfl⟩
    · exact ⟨_, h.2, h.1, rfl, rfl⟩
    · exact ⟨_, h.2.2, h.1, h.2.1, rfl, rfl⟩
    · exact ⟨_, h.2.2, h.1, h.2.1, rfl, rfl⟩
    · split at h
      · exact ⟨_, h, rfl, rfl⟩
      · exact h.elim
  · split at h
    · exact ⟨_, h.2, h.1, rfl, rfl⟩
    · split at h
      · exact ⟨_, h, rfl, rfl⟩
      · exact h.elim
  · split at h <;> first | exact h.elim | exact ⟨_, h, rfl, rfl⟩
  · obtain ⟨h0, h⟩ := h
    split at h <;> first | exact h.elim | exact ⟨_, h, h0, rfl, rfl⟩
  · obtain ⟨h0, h1, h2, h⟩ := h
    split at h <;> first | exact h.elim | exact ⟨_, h, h0, h1, h2, rfl, rfl⟩
  · split at h <;> first | exact h.elim | exact ⟨_, h, rfl, rfl⟩

theorem un_split {op : UnOp} {x : AV} (h : wUn op x σ K) : ∃ v, K v σ ∧ wUn op x σ (Only σ v) := by
  unfold wUn at h ⊢
  split at h <;> first | exact h.elim | exact ⟨_, h, rfl, rfl⟩

theorem conv_split {s d : TypeId} {x : AV} (h : wConv T false s d x σ K) : ∃ v, K v σ ∧ wConv T false s d x σ (Only σ v) := by
  unfold wConv at h ⊢
  obtain ⟨h0, h⟩ := h
  split at h
  · exact ⟨_, h, h0, rfl, rfl⟩
  · exact ⟨_, h.2, h0, h.1, rfl, rfl⟩
  · obtain ⟨h1, h2, h3, hk⟩ := h; exact ⟨_, hk, h0, h1, h2, h3, rfl, rfl⟩
  · exact ⟨_, h.2, h0, h.1, rfl, rfl⟩
  · obtain ⟨h1, s, h2, h3, hk⟩ := h; exact ⟨_, hk, h0, h1, s, h2, h3, rfl, rfl⟩
  · obtain ⟨h1, c, wm, h2, h3, s, h4, h5, hk⟩ := h; exact ⟨_, hk, h0, h1, c, wm, h2, h3, s, h4, h5, rfl, rfl⟩
  · obtain ⟨h1, h2, hk⟩ := h; exact ⟨_, hk, h0, h1, h2, rfl, rfl⟩
  · obtain ⟨h1, h2, h3, h4, h5, hk⟩ := h; exact ⟨_, hk, h0, h1, h2, h3, h4, h5, rfl, rfl⟩
  · exact h.elim

/-- An operation that only reads gives one value, and leaves the state. -/
theorem read_split {mt : Bool} {op : Op} {e : Env} {N : Nat} (hr : isEff mt op = false) (h : wOp P T mt op e N σ K) : ∃ v, K v σ ∧ Gives P T mt op e N σ v := by
  unfold Gives
  cases op <;> simp only [isEff, Bool.true_eq_false, reduceCtorEq] at hr <;> simp only [wOp] at h ⊢
  case move => exact ⟨_, h, rfl, trivial⟩
  case assign => exact ⟨_, h, rfl, trivial⟩
  case pick => split at h <;> first | exact h.elim | exact ⟨_, h, rfl, trivial⟩
  case box =>
    subst hr
    split at h
    · simp only at h ⊢
      split at h
      · exact ⟨_, h, rfl, trivial⟩
      · exact h.elim
    · exact h.elim
  case build => exact build_split h
  case buildSlice =>
    subst hr
    unfold wBuildSlice wRow at h ⊢
    split at h
    · obtain ⟨h1, h2, h⟩ := h
      split at h
      · simp only at h ⊢
        split at h
        · exact ⟨_, h, h1, h2, rfl, trivial⟩
        · exact h.elim
      · exact h.elim
    · exact h.elim
  case load => exact load_split h
  case nilCheck => exact nil_split h
  case binOp => exact bin_split h
  case unOp => exact un_split h
  case convert => subst hr; exact conv_split h
  case makeInterface => exact ⟨_, h.2, h.1, rfl, trivial⟩
  case makeFunc => exact ⟨_, h, rfl, trivial⟩
  case slice => exact slice_split h
  case fieldAddr => exact fieldAddr_split h
  case field => exact field_split h
  case indexAddr => exact indexAddr_split h
  case index => exact index_split h
  case extract =>
    split at h
    · split at h
      · exact ⟨_, h, rfl, trivial⟩
      · exact h.elim
    · exact h.elim
  case call c =>
    obtain ⟨callee, args, ts⟩ := c
    have bl : ∀ b, (b = .len ∨ b = .max ∨ b = .min) → wBuiltin T b ts.toList (args.toList.map (ev T e N)) σ K → ∃ v, K v σ ∧ wBuiltin T b ts.toList (args.toList.map (ev T e N)) σ (Only σ v) := by
      intro b hb h
      unfold wBuiltin at h ⊢
      split at h
      · obtain ⟨h1, es, h2, h3, h⟩ := h; exact ⟨_, h, h1, es, h2, h3, rfl, rfl⟩
      · rcases hb with hb | hb | hb <;> cases hb
      · rcases hb with hb | hb | hb <;> cases hb
      · rcases hb with hb | hb | hb <;> cases hb
      · rcases hb with hb | hb | hb <;> cases hb
      · rcases hb with hb | hb | hb <;> cases hb
      · split at h
        · exact ⟨_, h, rfl, rfl⟩
        · exact h.elim
      · rcases hb with hb | hb | hb <;> cases hb
      · split at h
        · exact ⟨_, h, rfl, rfl⟩
        · exact h.elim
      · split at h
        · exact ⟨_, h, rfl, rfl⟩
        · exact h.elim
      · exact h.elim
    cases callee with
    | value f => simp at hr
    | invoke r n => simp at hr
    | builtin b =>
      simp only [wCall] at h ⊢
      cases b <;> simp at hr
      · exact bl .len (.inl rfl) h
      · exact bl .max (.inr (.inl rfl)) h
      · exact bl .min (.inr (.inr rfl)) h

end


theorem map_congr {e e' : Env} {N : Nat} {l : List Operand} (h : ∀ x ∈ l, ev T e N x = ev T e' N x) : l.map (ev T e N) = l.map (ev T e' N) := List.map_congr_left h

theorem parts_congr {e e' : Env} {N : Nat} {l : List (Nat × Operand)} (h : ∀ x ∈ l.map (·.2), ev T e N x = ev T e' N x) : (l.map fun p => (p.1, ev T e N p.2)) = l.map fun p => (p.1, ev T e' N p.2) :=
  List.map_congr_left fun p hp => by rw [h p.2 (List.mem_map.2 ⟨p, hp, rfl⟩)]

theorem opt_congr {e e' : Env} {N : Nat} {o : Option Operand} (h : ∀ x ∈ o.toArray, ev T e N x = ev T e' N x) : o.map (ev T e N) = o.map (ev T e' N) := by
  cases o with
  | none => rfl
  | some x => simp [h x (by simp)]

/-- An operation looks at its operands alone. -/
theorem wOp_congr {mt : Bool} {op : Op} {e e' : Env} {N : Nat} {σ : St} {K : AV → St → Prop} (h : ∀ x ∈ op.operands, ev T e N x = ev T e' N x) (hw : wOp P T mt op e N σ K) : wOp P T mt op e' N σ K := by
  cases op <;> simp only [Op.operands] at h <;> simp only [wOp] at hw ⊢ <;> try (exact hw)
  case move x => rw [h x (by simp)] at hw; exact hw
  case assign x => rw [h x (by simp)] at hw; exact hw
  case pick c a b => rw [h c (by simp), h a (by simp), h b (by simp)] at hw; exact hw
  case box t x => rw [h x (by simp)] at hw; exact hw
  case build t parts => rw [parts_congr (fun x hx => h x (by simpa using hx))] at hw; exact hw
  case buildSlice t n parts => rw [parts_congr (fun x hx => h x (by simpa using hx))] at hw; exact hw
  case load t x => rw [h x (by simp)] at hw; exact hw
  case store t x v => rw [h x (by simp), h v (by simp)] at hw; exact hw
  case nilCheck x => rw [h x (by simp)] at hw; exact hw
  case binOp op t x y _ => rw [h x (by simp), h y (by simp)] at hw; exact hw
  case unOp op t x => rw [h x (by simp)] at hw; exact hw
  case convert s d x => rw [h x (by simp)] at hw; exact hw
  case makeInterface t x => rw [h x (by simp)] at hw; exact hw
  case makeFunc f a b =>
    rw [map_congr (fun x hx => h x (by simp; exact .inl (by simpa using hx))), map_congr (l := b.toList) (fun x hx => h x (by simp; exact .inr (by simpa using hx)))] at hw
    exact hw
  case slice t x lo hi mx =>
    rw [h x (by simp), opt_congr (o := lo) (fun y hy => h y (by simp only [Array.mem_append]; exact .inl (.inl (.inr hy)))), opt_congr (o := hi) (fun y hy => h y (by simp only [Array.mem_append]; exact .inl (.inr hy))), opt_congr (o := mx) (fun y hy => h y (by simp only [Array.mem_append]; exact .inr hy))] at hw
    exact hw
  case fieldAddr s x f => rw [h x (by simp)] at hw; exact hw
  case field s x f => rw [h x (by simp)] at hw; exact hw
  case indexAddr t x i => rw [h x (by simp), h i (by simp)] at hw; exact hw
  case index t x i => rw [h x (by simp), h i (by simp)] at hw; exact hw
  case extract x i => rw [h x (by simp)] at hw; exact hw
  case makeMap t r =>
    cases r with
    | none => exact hw
    | some _ => exact hw
  case makeSlice t l c => rw [h l (by simp), h c (by simp)] at hw; exact hw
  case lookup t m k c => rw [h m (by simp), h k (by simp)] at hw; exact hw
  case mapUpdate t m k v => rw [h m (by simp), h k (by simp), h v (by simp)] at hw; exact hw
  case call c =>
    obtain ⟨callee, args, ts⟩ := c
    simp only [wCall] at hw ⊢
    simp only [Call.operands] at h
    have ha : args.toList.map (ev T e N) = args.toList.map (ev T e' N) := map_congr fun x hx => h x (Array.mem_append.2 (.inr (by simpa using hx)))
    cases callee with
    | value f => simp only at hw ⊢; rw [h f (by simp), ha] at hw; exact hw
    | invoke r n => simp only at hw ⊢; rw [h r (by simp), ha] at hw; exact hw
    | builtin b => simp only at hw ⊢; rw [ha] at hw; exact hw

/-- Does an operation's value stay, where the state turns from σ to σ'? (What hangs on no object stays by itself.) -/
def stabA (P : Program) (T : Tab) (mt : Bool) (op : Op) (e : Env) (N : Nat) (σ' : St) (v : AV) : Prop :=
  match op with
  | .load t x => match ev T e N x with
    | .ip _ => True
    | _ => Gives P T mt op e N σ' v
  | .convert s d x => match ev T e N x with
    | .ms .. | .ptr .. => Gives P T mt op e N σ' v
    | _ => True
  | .binOp op' t x y z => match ev T e N x with
    | .ptr .. => Gives P T mt op e N σ' v
    | _ => True
  | .call { callee := .builtin .len, args := as, argTypes := _ } => match as.toList.map (ev T e N) with
    | .mp _ :: _ => Gives P T mt op e N σ' v
    | _ => True
  | .slice t x _ _ _ => match ev T e N x with
    | .ptr .. | .ms .. => Gives P T mt op e N σ' v
    | _ => True
  | _ => True

theorem stab_sound {mt : Bool} {op : Op} {e : Env} {N : Nat} {σ σ' : St} {v : AV} (hr : isEff mt op = false) (h : Gives P T mt op e N σ v) (hs : stabA P T mt op e N σ' v) : Gives P T mt op e N σ' v := by
  unfold Gives at h ⊢
  cases op <;> simp only [isEff, Bool.true_eq_false, reduceCtorEq] at hr
  case move => exact ⟨h.1, rfl⟩
  case assign => exact ⟨h.1, rfl⟩
  case pick => simp only [wOp] at h ⊢; split at h <;> first | exact h.elim | exact ⟨h.1, trivial⟩
  case box =>
    subst hr
    simp only [wOp] at h ⊢
    split at h
    · split at h
      · exact ⟨h.1, trivial⟩
      · exact h.elim
    · exact h.elim
  case build =>
    simp only [wOp, wBuild] at h ⊢
    obtain ⟨h0, h⟩ := h
    split at h
    · split at h
      · exact ⟨h0, h.1, h.2.1, trivial⟩
      · exact h.elim
    · split at h
      · exact ⟨h0, h.1, h.2.1, trivial⟩
      · exact h.elim
    · exact h.elim
  case buildSlice =>
    subst hr
    simp only [wOp, wBuildSlice, wRow] at h ⊢
    split at h
    · obtain ⟨h1, h2, h⟩ := h
      split at h
      · split at h
        · exact ⟨h1, h2, h.1, trivial⟩
        · exact h.elim
      · exact h.elim
    · exact h.elim
  case load t x =>
    simp only [stabA] at hs
    split at hs
    · rename_i cells hx
      simp only [wOp, wLoad, hx] at h ⊢
      simpa using h
    · exact hs
  case nilCheck =>
    simp only [wOp, wNil] at h ⊢
    split at h <;> first | exact h.elim | exact ⟨h.1, trivial⟩
  case binOp op' t x y z =>
    simp only [stabA] at hs
    split at hs
    · exact hs
    rename_i hx
    simp only [wOp, wBin] at h ⊢
    split at h
    · split at h
      · exact ⟨h.1, h.2.1, trivial⟩
      · exact ⟨h.1, h.2.1, trivial⟩
      · exact ⟨h.1, h.2.1, h.2.2.1, trivial⟩
      · exact ⟨h.1, h.2.1, h.2.2.1, trivial⟩
      · split at h
        · exact ⟨h.1, trivial⟩
        · exact h.elim
    · split at h
      · exact ⟨h.1, h.2.1, trivial⟩
      · split at h
        · exact ⟨h.1, trivial⟩
        · exact h.elim
    · split at h <;> first | exact h.elim | exact ⟨h.1, trivial⟩
    · obtain ⟨h0, h⟩ := h
      split at h <;> first | exact h.elim | exact ⟨h0, h.1, trivial⟩
    · rename_i h5 _; exact absurd h5 (hx _ _ _)
    · split at h <;> first | exact h.elim | exact ⟨h.1, trivial⟩
  case unOp =>
    simp only [wOp, wUn] at h ⊢
    split at h <;> first | exact h.elim | exact ⟨h.1, trivial⟩
  case convert s d x =>
    subst hr
    simp only [stabA] at hs
    split at hs
    · exact hs
    · exact hs
    · rename_i hx hx2
      simp only [wOp, wConv] at h ⊢
      obtain ⟨h0, h⟩ := h
      split at h
      · exact ⟨h0, h.1, trivial⟩
      · exact ⟨h0, h.1, h.2.1, trivial⟩
      · exact ⟨h0, h.1, h.2.1, h.2.2.1, h.2.2.2.1, trivial⟩
      · exact ⟨h0, h.1, h.2.1, trivial⟩
      · obtain ⟨h1, s, h2, h3, hk⟩ := h; exact ⟨h0, h1, s, h2, h3, hk.1, trivial⟩
      · rename_i h5; exact absurd h5 (hx _ _ _ _ _)
      · rename_i h5; exact absurd h5 (hx2 _ _ _)
      · rename_i h5; exact absurd h5 (hx2 _ _ _)
      · exact h.elim
  case makeInterface => exact ⟨h.1, h.2.1, rfl⟩
  case makeFunc => exact ⟨h.1, rfl⟩
  case slice t x lo hi mx =>
    simp only [stabA] at hs
    split at hs
    · exact hs
    · exact hs
    · rename_i hx hx2
      simp only [wOp, wSlice] at h ⊢
      split at h
      · obtain ⟨a, h, ca⟩ := bnd_split h
        obtain ⟨b, ⟨h1, h2, r, h3, hk⟩, cb⟩ := bnd_split h
        exact ca _ (cb _ ⟨h1, h2, r, h3, hk.1, trivial⟩)
      · obtain ⟨h0, h⟩ := h
        obtain ⟨a, h, ca⟩ := bnd_split h
        obtain ⟨b, ⟨h1, h2, r, h3, hk⟩, cb⟩ := bnd_split h
        exact ⟨h0, ca _ (cb _ ⟨h1, h2, r, h3, hk.1, trivial⟩)⟩
      · obtain ⟨h0, h⟩ := h
        obtain ⟨m, h, cm⟩ := bnd_split h
        obtain ⟨a, h, ca⟩ := bnd_split h
        obtain ⟨b, ⟨h1, h2, h3, h4, r, h5, hk⟩, cb⟩ := bnd_split h
        exact ⟨h0, cm _ (ca _ (cb _ ⟨h1, h2, h3, h4, r, h5, hk.1, trivial⟩))⟩
      · obtain ⟨h0, h⟩ := h
        obtain ⟨a, h, ca⟩ := bnd_split h
        obtain ⟨b, ⟨h1, h2, hk⟩, cb⟩ := bnd_split h
        exact ⟨h0, ca _ (cb _ ⟨h1, h2, hk.1, trivial⟩)⟩
      · rename_i h5 _; exact absurd h5 (hx2 _ _ _ _ _)
      · rename_i h5 _; exact absurd h5 (hx2 _ _ _ _ _)
      · obtain ⟨h0, h⟩ := h
        obtain ⟨a, h, ca⟩ := bnd_split h
        obtain ⟨b, ⟨h1, h2, r, h3, hk⟩, cb⟩ := bnd_split h
        exact ⟨h0, ca _ (cb _ ⟨h1, h2, r, h3, hk.1, trivial⟩)⟩
      · rename_i h5 _; exact absurd h5 (hx _ _ _)
      · exact h.elim
  case fieldAddr =>
    simp only [wOp, wFieldAddr] at h ⊢
    split at h
    · split at h
      · obtain ⟨h0, h⟩ := h
        split at h <;> first | exact h.elim | exact ⟨h0, h.1, trivial⟩
      · exact h.elim
    · exact h.elim
  case field =>
    simp only [wOp, wField] at h ⊢
    split at h
    · split at h
      · split at h
        · simpa using h
        · exact h.elim
      · exact h.elim
    · exact h.elim
  case indexAddr =>
    simp only [wOp, wIndexAddr] at h ⊢
    split at h
    · obtain ⟨h0, h⟩ := h
      obtain ⟨i, ⟨r, hr, hk⟩, hc⟩ := idx_split h
      exact ⟨h0, hc _ ⟨r, hr, hk.1, trivial⟩⟩
    · obtain ⟨h0, h⟩ := h
      obtain ⟨i, hk, hc⟩ := idx_split h
      exact ⟨h0, hc _ ⟨hk.1, trivial⟩⟩
    · obtain ⟨h0, h⟩ := h
      obtain ⟨i, ⟨r, hr, hk⟩, hc⟩ := idx_split h
      exact ⟨h0, hc _ ⟨r, hr, hk.1, trivial⟩⟩
    · obtain ⟨h0, h⟩ := h
      obtain ⟨i, hk, hc⟩ := idx_split h
      exact ⟨h0, hc _ ⟨hk.1, trivial⟩⟩
    · exact h.elim
  case index =>
    simp only [wOp, wIndex] at h ⊢
    split at h
    · obtain ⟨h0, h⟩ := h
      obtain ⟨i, hv, hc⟩ := idx_split h
      exact ⟨h0, hc _ (by simpa using hv)⟩
    · obtain ⟨i, ⟨c, hc1, hk⟩, hc⟩ := idx_split h
      exact hc _ ⟨c, hc1, hk.1, trivial⟩
    · exact h.elim
  case extract =>
    simp only [wOp] at h ⊢
    split at h
    · split at h
      · exact ⟨h.1, trivial⟩
      · exact h.elim
    · exact h.elim
  case call c =>
    obtain ⟨callee, args, ts⟩ := c
    cases callee with
    | value f => simp at hr
    | invoke r n => simp at hr
    | builtin b =>
      have hs' : b = .len → (match args.toList.map (ev T e N) with | .mp _ :: _ => Gives P T mt (.call { callee := .builtin .len, args := args, argTypes := ts }) e N σ' v | _ => True) := fun hb => by
        subst hb; exact hs
      simp only [wOp, wCall, wBuiltin] at h ⊢
      split at h
      · rename_i hl
        have := hs' rfl
        rw [hl] at this
        simp only [Gives, wOp, wCall, wBuiltin, hl] at this
        simpa only [*] using this
      · simp at hr
      · simp at hr
      · simp at hr
      · simp at hr
      · simp at hr
      · rename_i _ _ _ t _ x _ _ _ _
        have : lenA σ' (T.td t) x = lenA σ (T.td t) x := by unfold lenA; rfl
        rw [this]
        split at h
        · exact ⟨h.1, trivial⟩
        · exact h.elim
      · simp at hr
      · split at h
        · exact ⟨h.1, trivial⟩
        · exact h.elim
      · split at h
        · exact ⟨h.1, trivial⟩
        · exact h.elim
      · exact h.elim

end Go.Proofs.QQ
end
