/- A part of the proof that XlatePolicy returns true at every argument: the reader machine and this translation under it. Conditions: those that each theorem bears. -/
import Derived.Test.YtcdjeickpdlbfaaGreatDoorQ11
section
set_option linter.unusedVariables false
set_option linter.unusedSimpArgs false
namespace Go.Proofs.QQ
open Go

variable {P : Program} {T : Tab}

/-- What the machine goes on with. -/
abbrev GoOn (K : AV → X → Prop) : AV → St → Prop := fun v σ => ∃ x, x.st = σ ∧ K v x

section
variable {x : X} {K : AV → X → Prop}

theorem go_here {v : AV} (h : K v x) : GoOn K v x.st := ⟨x, rfl, h⟩

theorem val_mono {t : TypeId} {cells : List AV} {Kv Kv' : AV → Prop} (h : valA T t cells Kv) (hk : ∀ v, Kv v → Kv' v) : valA T t cells Kv' := by
  unfold valA at h ⊢
  split at h
  · exact h.elim
  · exact ⟨h.1, h.2.1, hk _ h.2.2⟩
  · exact ⟨h.1, h.2.1, hk _ h.2.2⟩
  · split at h
    · exact hk _ h
    · exact h.elim

theorem val_x {t : TypeId} {cells : List AV} {Kv : AV → Prop} (h : xVal False T t cells Kv) : valA T t cells Kv := by
  unfold xVal at h
  unfold valA
  have big : (match T.size t with | 0 => False | n + 1 => match Nat.ble (Nat.succ n) cells.length with | true => fList (cells.take (Nat.succ n)) fun cs => Kv (.agg cs) | false => False) → T.size t ≠ 0 ∧ T.size t ≤ cells.length ∧ Kv (.agg (cells.take (T.size t))) := by
    intro h
    cases hn : T.size t with
    | zero => rw [hn] at h; exact h.elim
    | succ n =>
      rw [hn] at h
      simp only at h
      cases hb : Nat.ble (Nat.succ n) cells.length with
      | false => rw [hb] at h; exact h.elim
      | true =>
        rw [hb] at h
        simp only [fList_eq] at h
        exact ⟨by omega, Nat.le_of_ble_eq_true hb, h⟩
  cases hd : T.td t <;> simp only [hd] at h ⊢
  case arr => exact big h
  case st => exact big h
  all_goals exact h

theorem row_x {o g : Nat} {Kr : List AV → Nat → Prop} (h : xRow False o g x Kr) : ∃ cells wm, o < x.st.n ∧ x.st.at_ o = .row cells g wm ∧ Kr cells wm := by
  unfold xRow at h
  split at h
  case h_2 => exact h.elim
  rename_i hlt
  split at h
  case h_2 => exact h.elim
  rename_i cells g' wm t hx
  split at h
  case h_2 => exact h.elim
  rename_i hg
  obtain rfl := Nat.eq_of_beq_eq_true hg
  refine ⟨cells, wm, ?_, by simp only [X.st, hx, XO.obj], h⟩
  have : o < x.n := by simpa [Nat.blt_eq] using hlt
  exact this

/-! ### Great rows -/

theorem segLen_eq (segs : List (Nat × AV)) : (baseCells segs).length = segLen segs := by
  induction segs with
  | nil => rfl
  | cons s segs ih =>
    show (List.replicate s.1 s.2 ++ baseCells segs).length = s.1 + segLen segs
    simp [ih]

theorem bigLen (segs ps : List (Nat × AV)) : (bigCells segs ps).length = segLen segs := by
  induction ps with
  | nil => exact segLen_eq segs
  | cons p ps ih =>
    show ((bigCells segs ps).set p.1 p.2).length = _
    simp [ih]

theorem segGet_x {segs : List (Nat × AV)} {Kv : AV → Prop} : ∀ {i : Nat}, segGet False segs i Kv → ∃ v, (baseCells segs)[i]? = some v ∧ Kv v := by
  induction segs with
  | nil => intro i h; exact h.elim
  | cons s segs ih =>
    intro i h
    have h : (match Nat.blt i s.1 with
      | true => Kv s.2
      | false => segGet False segs (i - s.1) Kv) := h
    show ∃ v, (List.replicate s.1 s.2 ++ baseCells segs)[i]? = some v ∧ Kv v
    split at h
    · rename_i hb
      have hlt : i < s.1 := by simpa [Nat.blt_eq] using hb
      refine ⟨s.2, ?_, h⟩
      rw [List.getElem?_append_left (by simpa using hlt)]
      simp [hlt]
    · rename_i hb
      have hge : s.1 ≤ i := by
        rcases Nat.lt_or_ge i s.1 with h1 | h1
        · have : Nat.blt i s.1 = true := by simpa [Nat.blt_eq] using h1
          rw [this] at hb; cases hb
        · exact h1
      obtain ⟨v, h1, h2⟩ := ih h
      refine ⟨v, ?_, h2⟩
      rw [List.getElem?_append_right (by simpa using hge)]
      simpa using h1

theorem bigGet_x {segs ps : List (Nat × AV)} {i : Nat} {Kv : AV → Prop} (hi : i < segLen segs) (h : bigGet False segs ps i Kv) : ∃ v, (bigCells segs ps)[i]? = some v ∧ Kv v := by
  induction ps with
  | nil => exact segGet_x h
  | cons p ps ih =>
    have h' : (match Nat.beq p.1 i with
      | true => Kv p.2
      | false => bigGet False segs ps i Kv) := h
    clear h
    show ∃ v, ((bigCells segs ps).set p.1 p.2)[i]? = some v ∧ Kv v
    split at h'
    · rename_i hb
      have he := Nat.eq_of_beq_eq_true hb
      exact ⟨p.2, by rw [he, List.getElem?_set_self (by rw [bigLen]; exact hi)], h'⟩
    · rename_i hb
      have hne : p.1 ≠ i := fun he => by rw [he] at hb; simp at hb
      obtain ⟨v, h1, h2⟩ := ih h'
      exact ⟨v, by rw [List.getElem?_set_ne hne]; exact h1, h2⟩

theorem put_nil (cells : List AV) (off : Nat) : put cells off [] = cells := by simp [put]

theorem put_cons {cells : List AV} {off : Nat} (h : off < cells.length) (a : AV) (r : List AV) : put cells off (a :: r) = put (cells.set off a) (off + 1) r := by
  apply List.ext_getElem?
  intro j
  simp only [put, List.append_assoc, List.length_cons]
  rcases Nat.lt_trichotomy j off with h1 | h1 | h1
  · rw [List.getElem?_append_left (by simp; omega), List.getElem?_append_left (by simp; omega)]
    simp [List.getElem?_take, h1, show j < off + 1 by omega, List.getElem?_set_ne (show off ≠ j by omega)]
  · subst h1
    have e : (List.take j cells).length = j := by simp; omega
    rw [List.getElem?_append_right (by rw [e]; omega), e, Nat.sub_self, List.cons_append, List.getElem?_cons_zero, List.getElem?_append_left (by simp; omega)]
    simp [List.getElem?_take, List.getElem?_set_self h]
  · have e1 : (cells.take off).length = off := by simp; omega
    have e2 : ((cells.set off a).take (off + 1)).length = off + 1 := by simp; omega
    rw [List.getElem?_append_right (l₁ := List.take off cells) (by rw [e1]; omega), List.getElem?_append_right (l₁ := List.take (off + 1) (cells.set off a)) (by rw [e2]; omega), e1, e2]
    obtain ⟨k, rfl⟩ : ∃ k, j = off + 1 + k := ⟨j - (off + 1), by omega⟩
    have e3 : off + 1 + k - off = k + 1 := by omega
    have e4 : off + 1 + k - (off + 1) = k := by omega
    rw [e3, e4, List.cons_append, List.getElem?_cons_succ]
    rcases Nat.lt_or_ge k r.length with h2 | h2
    · rw [List.getElem?_append_left h2, List.getElem?_append_left h2]
    · rw [List.getElem?_append_right h2, List.getElem?_append_right h2]
      simp only [List.getElem?_drop]
      rw [List.getElem?_set_ne (by omega)]
      congr 1
      omega

theorem addP_eq (segs : List (Nat × AV)) : ∀ (l : List AV) (off : Nat) (ps : List (Nat × AV)), off + l.length ≤ segLen segs → bigCells segs (addP l off ps) = put (bigCells segs ps) off l
  | [], off, ps, _ => (put_nil _ _).symm
  | a :: l, off, ps, h => by
    have h' : off + (l.length + 1) ≤ segLen segs := h
    show bigCells segs (addP l (off + 1) ((off, a) :: ps)) = _
    rw [addP_eq segs l (off + 1) ((off, a) :: ps) (by omega), put_cons (by rw [bigLen]; omega)]
    rfl

theorem row2_x {o g : Nat} {Kr : List AV → Nat → Prop} {K2 : List (Nat × AV) → List (Nat × AV) → Nat → Option TypeId → Prop} (h : xRow2 False o g x Kr K2) :
    ∃ cells wm, o < x.st.n ∧ x.st.at_ o = .row cells g wm ∧ (Kr cells wm ∨ ∃ segs ps t, cells = bigCells segs ps ∧ x.st.ty o = t ∧ K2 segs ps wm t) := by
  unfold xRow2 at h
  split at h
  case h_2 => exact h.elim
  rename_i hlt
  have hlt' : o < x.n := by simpa [Nat.blt_eq] using hlt
  split at h
  case h_3 => exact h.elim
  · rename_i cells g' wm t hx
    split at h
    case h_2 => exact h.elim
    rename_i hg
    obtain rfl := Nat.eq_of_beq_eq_true hg
    exact ⟨cells, wm, hlt', by simp only [X.st, hx, XO.obj], .inl h⟩
  · rename_i segs ps g' wm t hx
    split at h
    case h_2 => exact h.elim
    rename_i hg
    obtain rfl := Nat.eq_of_beq_eq_true hg
    exact ⟨_, wm, hlt', by simp only [X.st, hx, XO.obj], .inr ⟨segs, ps, t, rfl, by simp only [X.st, hx, XO.ty], h⟩⟩

theorem rowN_x {o g : Nat} {Kn : Nat → Prop} (h : xRowN False o g x Kn) : ∃ cells wm, o < x.st.n ∧ x.st.at_ o = .row cells g wm ∧ Kn cells.length := by
  obtain ⟨cells, wm, h1, h2, h3⟩ := row2_x h
  rcases h3 with h3 | ⟨segs, ps, t, rfl, _, h3⟩
  · exact ⟨cells, wm, h1, h2, h3⟩
  · exact ⟨_, wm, h1, h2, by rw [bigLen]; exact h3⟩

theorem valA_scalar {t : TypeId} {cells : List AV} {v : AV} {Kv : AV → Prop} (hs : scalarB (T.td t) = true) (hc : cells[0]? = some v) (hk : Kv v) : valA T t cells Kv := by
  cases cells with
  | nil => simp at hc
  | cons a cells =>
    have : a = v := by simpa using hc
    subst this
    unfold valA
    cases hd : T.td t <;> simp only [hd, scalarB] at hs ⊢ <;> first | exact hk | cases hs

theorem load_x {t : TypeId} {v : AV} (h : xLoad False T t v x K) : wLoad T t v x.st (GoOn K) := by
  unfold xLoad at h
  unfold wLoad
  split at h
  · exact val_mono (val_x h) fun v hk => go_here hk
  · rename_i o g off
    obtain ⟨cells, wm, h1, h2, h3⟩ := row2_x h
    rcases h3 with h3 | ⟨segs, ps, ty, rfl, _, h3⟩
    · exact ⟨cells, wm, h1, h2, val_mono (val_x h3) fun v hk => go_here hk⟩
    · split at h3
      · rename_i h4 h5
        obtain ⟨v, h6, h7⟩ := bigGet_x (by simpa [Nat.blt_eq] using h4) h3
        exact ⟨_, wm, h1, h2, valA_scalar h5 (by simpa using h6) (go_here h7)⟩
      · exact h3.elim
  · exact h.elim

theorem le_x {a b : Nat} {Q : Prop} (h : xLe False a b Q) : a ≤ b ∧ Q := by
  unfold xLe at h
  split at h
  · rename_i hb; exact ⟨Nat.le_of_ble_eq_true hb, h⟩
  · exact h.elim

theorem set_x {o : Nat} {ob : Obj} {K' : X → Prop} (h : x.setK False o ob (x.objs.get noObj o).ty K') : ∃ x', x'.st = x.st.set o ob ∧ K' x' := by
  obtain ⟨x', h1, h2⟩ := X.setK_st h
  exact ⟨x', by rw [h2, St.set_setT]; rfl, h1⟩

theorem store_x {t : TypeId} {a v : AV} (h : xStore False T t a v x K) : wStore T t a v x.st (GoOn K) := by
  unfold xStore at h
  unfold wStore
  split at h
  case h_2 => exact h.elim
  rename_i o g off vs hvs
  simp only [hvs]
  split at h
  case h_2 => exact h.elim
  rename_i n h1 h2 h3 h4
  obtain ⟨cells, wm, hlt, hrow, h⟩ := row2_x h
  rcases h with h | ⟨segs, ps, ty, rfl, hty, h⟩
  · split at h
    case h_2 => exact h.elim
    rename_i h5 h6
    rw [fList_eq] at h
    obtain ⟨x', hx', hk⟩ := set_x h
    exact ⟨cells, wm, hlt, Nat.le_of_ble_eq_true h1, hrow, Nat.eq_of_beq_eq_true h2, by omega, h4, Nat.le_of_ble_eq_true h5, Nat.le_of_ble_eq_true h6, x', hx', hk⟩
  · split at h
    case h_2 => exact h.elim
    rename_i h5 h6
    rw [fList_eq] at h
    have h6' : off + vs.length ≤ segLen segs := Nat.le_of_ble_eq_true h6
    obtain ⟨x', hk, hx'⟩ := X.setO_st h
    refine ⟨_, wm, hlt, Nat.le_of_ble_eq_true h1, hrow, Nat.eq_of_beq_eq_true h2, by omega, h4, Nat.le_of_ble_eq_true h5, by rw [bigLen]; exact h6', x', ?_, hk⟩
    rw [hx', St.set_setT, hty]
    simp only [XO.obj, XO.ty, addP_eq _ _ _ _ h6']

theorem nil_x {v : AV} (h : xNil False v x K) : wNil v x.st (GoOn K) := by
  unfold xNil at h
  unfold wNil
  split at h <;> first | exact h.elim | exact go_here h

theorem fill_x (place : Nat → Option (Nat × Nat)) {Kc : List AV → Prop} : ∀ (l : List (Nat × AV)) (cells : List AV), xFill False place cells l Kc → ∃ r, fillA place cells l = some r ∧ Kc r
  | [], cells, h => ⟨cells, rfl, h⟩
  | (i, v) :: l, cells, h => by
    have h : (match place i, cellsA v with
      | some (off, size), some vs => match Nat.beq vs.length size, Nat.ble (Nat.add off vs.length) cells.length with
        | true, true => fList (put cells off vs) fun cells' => xFill False place cells' l Kc
        | _, _ => False
      | _, _ => False) := h
    unfold fillA
    split at h
    case h_2 => exact h.elim
    rename_i off size vs hp hc
    simp only [hp, hc]
    split at h
    case h_2 => exact h.elim
    rename_i h1 h2
    rw [fList_eq] at h
    rw [if_pos ⟨Nat.eq_of_beq_eq_true h1, Nat.le_of_ble_eq_true h2⟩]
    exact fill_x place l _ h

theorem new_x {mt full : Bool} {ty : Option TypeId} {len esz : Nat} {cells : List AV} (h : xNew False mt full ty len esz cells x K) : wRow mt full ty len esz cells x.st (GoOn K) := by
  unfold xNew at h
  unfold wRow
  cases mt with
  | true =>
    obtain ⟨x', h1, h2⟩ := X.pushK_st h
    exact ⟨x', h2, h1⟩
  | false =>
    simp only at h ⊢
    cases hp : cells.all pureS with
    | true => rw [hp] at h; exact go_here h
    | false => rw [hp] at h; exact h.elim

theorem build_x {t : TypeId} {parts : List (Nat × AV)} (h : xBuild False T t parts x K) : wBuild T t parts x.st (GoOn K) := by
  unfold xBuild at h
  unfold wBuild
  cases hs : T.size t with
  | zero => rw [hs] at h; exact h.elim
  | succ m =>
    rw [hs] at h
    simp only at h
    refine ⟨by omega, ?_⟩
    cases hd : T.td t <;> simp only [hd] at h ⊢
    case st fs =>
      split at h
      · rename_i hall
        rw [fList_eq] at h
        obtain ⟨r, h1, h2⟩ := fill_x _ _ _ h
        simp only [h1]
        refine ⟨?_, go_here h2⟩
        refine List.all_eq_true.2 fun f hf => ?_
        have := List.all_eq_true.1 hall f hf
        cases hz : T.size f.2 with
        | zero => rw [hz] at this; cases this
        | succ z => simp
      · exact h.elim
    case arr n e =>
      cases hz : T.size e with
      | zero => rw [hz] at h; exact h.elim
      | succ z =>
        rw [hz] at h
        simp only [fList_eq] at h
        obtain ⟨r, h1, h2⟩ := fill_x _ _ _ h
        have h1' : fillA (fun i => some (i * (z + 1), z + 1)) (zeroA T t) parts = some r := h1
        simp only [h1']
        exact ⟨by omega, go_here h2⟩

theorem buildSlice_x {mt : Bool} {t : TypeId} {len : Nat} {parts : List (Nat × AV)} (h : xBuildSlice False T mt t len parts x K) : wBuildSlice T mt t len parts x.st (GoOn K) := by
  unfold xBuildSlice at h
  unfold wBuildSlice
  cases hd : T.td t <;> simp only [hd] at h ⊢
  case sl e =>
    cases hz : T.size e with
    | zero => rw [hz] at h; exact h.elim
    | succ z =>
      rw [hz] at h
      simp only at h
      split at h
      · rename_i hb
        simp only [fList_eq] at h
        obtain ⟨r, h1, h2⟩ := fill_x _ _ _ h
        have h1' : fillA (fun i => some (i * (z + 1), z + 1)) (repA (zeroA T e) len) parts = some r := h1
        simp only [h1']
        exact ⟨by omega, Nat.le_of_ble_eq_true hb, new_x h2⟩
      · exact h.elim

theorem fieldAddr_x {s : TypeId} {v : AV} {f : Nat} (h : xFieldAddr False T s v f x K) : wFieldAddr T s v f x.st (GoOn K) := by
  unfold xFieldAddr at h
  unfold wFieldAddr
  cases hd : T.td s <;> simp only [hd] at h ⊢
  case st fs =>
    split at h
    · rename_i off ft hf
      simp only [hf]
      cases hz : T.size ft with
      | zero => rw [hz] at h; exact h.elim
      | succ z =>
        rw [hz] at h
        simp only at h
        refine ⟨by omega, ?_⟩
        split at h <;> first | exact h.elim | exact go_here h
    · exact h.elim

theorem field_x {s : TypeId} {v : AV} {f : Nat} (h : xField False T s v f x K) : wField T s v f x.st (GoOn K) := by
  unfold xField at h
  unfold wField
  cases hd : T.td s <;> simp only [hd] at h ⊢
  case st fs =>
    split at h
    · rename_i off ft hf
      simp only [hf]
      split at h
      · exact val_mono (val_x h) fun v hk => go_here hk
      · exact h.elim
    · exact h.elim

theorem idx_x {ix : AV} {len : Nat} {Kn Kn' : Nat → Prop} (h : xIdx False ix len Kn) (hk : ∀ i, Kn i → Kn' i) : wIdx ix len Kn' := by
  unfold xIdx at h
  unfold wIdx
  split at h
  · rename_i k i
    split at h
    · rename_i hb
      have : i < len := by simpa [Nat.blt_eq] using hb
      exact ⟨i, rfl, this, hk _ h⟩
    · exact h.elim
  · exact h.elim

theorem indexAddr_x {t : TypeId} {v ix : AV} (h : xIndexAddr False T t v ix x K) : wIndexAddr T t v ix x.st (GoOn K) := by
  unfold xIndexAddr at h
  unfold wIndexAddr
  split at h
  case h_5 => exact h.elim
  all_goals
    rename_i hd
    simp only [hd]
    split at h
    · exact h.elim
    · rename_i z hz
      rw [hz]
      refine ⟨by omega, idx_x h fun i hi => ?_⟩
      first
        | (rw [fList_eq] at hi; exact ⟨_, rfl, go_here hi⟩)
        | exact go_here hi

theorem index_x {t : TypeId} {v ix : AV} (h : xIndex False T t v ix x K) : wIndex T t v ix x.st (GoOn K) := by
  unfold xIndex at h
  unfold wIndex
  split at h
  case h_3 => exact h.elim
  case h_1 n e cells hd =>
    simp only [hd]
    split at h
    · exact h.elim
    · rename_i z hz
      rw [hz]
      exact ⟨by omega, idx_x h fun i hi => val_mono (val_x hi) fun v hk => go_here hk⟩
  case h_2 s hd =>
    simp only [hd]
    refine idx_x h fun i hi => ?_
    split at hi
    · rename_i c hc
      exact ⟨c, hc, go_here hi⟩
    · exact hi.elim

theorem bnd_x {b : Option AV} {d : Nat} {Kn Kn' : Nat → Prop} (h : xBnd False b d Kn) (hk : ∀ i, Kn i → Kn' i) : wBnd b d Kn' := by
  unfold xBnd at h
  unfold wBnd
  split at h
  · exact hk _ h
  · exact ⟨_, rfl, hk _ h⟩
  · exact h.elim

theorem slice_x {t : TypeId} {v : AV} {lo hi mx : Option AV} (h : xSlice False T t v lo hi mx x K) : wSlice T t v lo hi mx x.st (GoOn K) := by
  unfold xSlice at h
  unfold wSlice
  split at h
  case h_9 => exact h.elim
  case h_1 s hd =>
    simp only [hd]
    refine bnd_x h fun h' h => bnd_x h fun l h => ?_
    obtain ⟨h1, h⟩ := le_x h
    obtain ⟨h2, h⟩ := le_x h
    rw [fList_eq] at h
    exact ⟨h1, h2, _, rfl, go_here h⟩
  case h_2 e full len cells hd =>
    simp only [hd]
    split at h
    · exact h.elim
    rename_i z hz
    rw [hz]
    refine ⟨by omega, bnd_x h fun h' h => bnd_x h fun l h => ?_⟩
    obtain ⟨h1, h⟩ := le_x h
    obtain ⟨h2, h⟩ := le_x h
    rw [fList_eq] at h
    exact ⟨h1, h2, _, rfl, go_here h⟩
  case h_3 e full len cells m hd =>
    simp only [hd]
    split at h
    case h_2 => exact h.elim
    rename_i z hi hz
    rw [hz]
    refine ⟨by omega, bnd_x h fun m' h => bnd_x h fun h' h => bnd_x h fun l h => ?_⟩
    obtain ⟨h1, h⟩ := le_x h
    obtain ⟨h2, h⟩ := le_x h
    obtain ⟨h3, h⟩ := le_x h
    rw [fList_eq] at h
    exact ⟨rfl, h1, h2, h3, _, rfl, go_here h⟩
  case h_4 e hd =>
    simp only [hd]
    split at h
    · exact h.elim
    rename_i z hz
    refine ⟨by omega, bnd_x h fun h' h => bnd_x h fun l h => ?_⟩
    split at h
    · exact ⟨rfl, rfl, go_here h⟩
    · exact h.elim
  case h_5 e o g off len esz hd =>
    simp only [hd]
    split at h
    · exact h.elim
    rename_i z hz
    split at h
    case h_2 => exact h.elim
    rename_i hb
    have hesz := Nat.eq_of_beq_eq_true hb
    refine ⟨by omega, by omega, bnd_x h fun h' h => bnd_x h fun l h => ?_⟩
    obtain ⟨h1, h⟩ := le_x h
    obtain ⟨h2, h⟩ := le_x h
    refine ⟨h1, h2, ?_⟩
    split at h
    · rename_i hb
      refine .inl ⟨?_, go_here h⟩
      simp only [Bool.or_eq_true] at hb
      rcases hb with hb | hb
      · exact .inl (by simpa [Nat.blt_eq] using hb)
      · exact .inr (Nat.eq_of_beq_eq_true hb)
    · rename_i hb
      simp only [Bool.or_eq_false_iff] at hb
      obtain ⟨cells, wm, h3, h4, h5⟩ := rowN_x h
      have n1 : ¬ l < len := fun hlt => by
        have : Nat.blt l len = true := by simpa [Nat.blt_eq] using hlt
        rw [hb.1] at this; cases this
      have n2 : l ≠ 0 := fun he => by
        subst he; exact absurd hb.2 (by simp)
      exact .inr ⟨by omega, by omega, ⟨cells, wm, h3, h4⟩, go_here h5⟩
  case h_6 e o g off len esz m hd =>
    simp only [hd]
    split at h
    case h_2 => exact h.elim
    rename_i z hi hz
    split at h
    case h_2 => exact h.elim
    rename_i hb
    have hesz := Nat.eq_of_beq_eq_true hb
    refine ⟨by omega, by omega, bnd_x h fun m' h => bnd_x h fun h' h => bnd_x h fun l h => ?_⟩
    obtain ⟨h1, h⟩ := le_x h
    obtain ⟨h2, h⟩ := le_x h
    obtain ⟨h3, h⟩ := le_x h
    split at h
    case h_2 => exact h.elim
    rename_i hb
    refine ⟨rfl, h1, h2, h3, ?_, go_here h⟩
    simp only [Bool.or_eq_true] at hb
    rcases hb with hb | hb
    · exact .inl (by simpa [Nat.blt_eq] using hb)
    · exact .inr (Nat.eq_of_beq_eq_true hb)
  case h_7 n e cells hd =>
    simp only [hd]
    split at h
    · exact h.elim
    rename_i z hz
    rw [hz]
    refine ⟨by omega, bnd_x h fun h' h => bnd_x h fun l h => ?_⟩
    obtain ⟨h1, h⟩ := le_x h
    obtain ⟨h2, h⟩ := le_x h
    rw [fList_eq] at h
    exact ⟨h1, h2, _, rfl, go_here h⟩
  case h_8 n e o g off hd =>
    simp only [hd]
    split at h
    · exact h.elim
    rename_i z hz
    rw [hz]
    refine ⟨by omega, bnd_x h fun h' h => bnd_x h fun l h => ?_⟩
    obtain ⟨h1, h⟩ := le_x h
    obtain ⟨h2, h⟩ := le_x h
    split at h
    case h_2 => exact h.elim
    rename_i hb
    obtain ⟨cells, wm, h3, h4, h5⟩ := rowN_x h
    obtain ⟨h6, h⟩ := le_x h5
    refine ⟨h1, h2, ?_, cells, wm, h3, h4, h6, go_here h⟩
    simp only [Bool.or_eq_true] at hb
    rcases hb with hb | hb
    · exact .inl (by simpa [Nat.blt_eq] using hb)
    · exact .inr (Nat.eq_of_beq_eq_true hb)

theorem eqStr_eq (a b : List UInt8) : eqStr a b = (a == b) := by
  induction a generalizing b with
  | nil => cases b <;> rfl
  | cons x a ih =>
    cases b with
    | nil => rfl
    | cons y b =>
      simp only [eqStr]
      split
      · rename_i h
        have : x = y := UInt8.toNat_inj.1 (Nat.eq_of_beq_eq_true h)
        subst this
        rw [ih]; simp
      · rename_i h
        have : x ≠ y := fun he => by subst he; simp at h
        simp [this]

theorem eqInt_eq (a b : Int) : eqInt a b = (a == b) := by
  rw [Bool.eq_iff_iff]
  cases a <;> cases b <;> simp [eqInt] <;> omega
theorem leInt_eq (a b : Int) : leInt a b = decide (a ≤ b) := by
  rw [Bool.eq_iff_iff]
  cases a <;> cases b <;> simp [leInt] <;> omega

theorem ltStr_eq (a b : List UInt8) : ltStr a b = Op.bytesLess a b := by
  induction a generalizing b with
  | nil => cases b <;> rfl
  | cons x a ih =>
    cases b with
    | nil => rfl
    | cons y b =>
      simp only [ltStr, Op.bytesLess]
      split
      · rename_i h
        have : x.toNat < y.toNat := by simpa [Nat.blt_eq] using h
        have : x < y := UInt8.lt_iff_toNat_lt.2 this
        simp [this]
      · rename_i h
        have h1 : ¬ x.toNat < y.toNat := fun hlt => by
          have : Nat.blt x.toNat y.toNat = true := by simpa [Nat.blt_eq] using hlt
          rw [h] at this; cases this
        have h2 : ¬ x < y := fun hlt => h1 (UInt8.lt_iff_toNat_lt.1 hlt)
        split
        · rename_i h3
          have : x = y := UInt8.toNat_inj.1 (Nat.eq_of_beq_eq_true h3)
          subst this
          simp [h2, ih]
        · rename_i h3
          have : x ≠ y := fun he => by subst he; simp at h3
          simp [h2, this]

theorem eqSX_eq (a b : AV) : eqSX a b = eqS a b := by
  cases a <;> cases b <;> simp only [eqSX, eqS, eqInt_eq, eqStr_eq]
theorem eqLX_eq (a b : List AV) : eqLX a b = eqL a b := by
  induction a generalizing b with
  | nil => cases b <;> rfl
  | cons x a ih => cases b with
    | nil => rfl
    | cons y b => simp only [eqLX, eqL, eqSX_eq, ih]; rfl

theorem un_x {op : UnOp} {v : AV} (h : xUn False op v x K) : wUn op v x.st (GoOn K) := by
  unfold xUn at h
  unfold wUn
  split at h <;> first | exact h.elim | exact go_here h

theorem strBin_x {op : BinOp} {t : TypeId} {a b : List UInt8} (h : xStrBin False op a b x K) : wBin T op t (.str a) (.str b) x.st (GoOn K) := by
  unfold xStrBin at h
  unfold wBin
  simp only
  cases op <;> simp only [strBin] at h ⊢
  case add =>
    obtain ⟨h1, h⟩ := le_x h
    rw [fList_eq] at h
    exact ⟨h1, go_here h⟩
  all_goals first
    | exact h.elim
    | (simp only [eqStr_eq, ltStr_eq] at h; exact go_here h)

theorem conv_pure {k : IntKind} {n : Int} : True := trivial

theorem find_x {k : AV} {es : List (AV × AV)} {none' : Prop} {some' : Nat → AV → Prop} (h : xFind False k es none' some') : ∃ r, findA k es 0 = some r ∧ ((r = none ∧ none') ∨ ∃ i v, r = some (i, v) ∧ some' i v) := by
  have gen : ∀ (es : List (AV × AV)) (i : Nat), (List.rec (motive := fun _ => Nat → Prop) (fun _ => none') (fun p _ ih i => match eqSX k p.1 with
    | some true => some' i p.2
    | some false => ih (Nat.succ i)
    | none => False) es i) → ∃ r, findA k es i = some r ∧ ((r = none ∧ none') ∨ ∃ i v, r = some (i, v) ∧ some' i v) := by
    intro es
    induction es with
    | nil => intro i h; exact ⟨none, rfl, .inl ⟨rfl, h⟩⟩
    | cons p es ih =>
      intro i h
      simp only [eqSX_eq] at h
      obtain ⟨k', v⟩ := p
      simp only [findA]
      split at h
      · rename_i he
        simp only [he]
        exact ⟨_, rfl, .inr ⟨i, v, rfl, h⟩⟩
      · rename_i he
        simp only [he]
        obtain ⟨r, h1, h2⟩ := ih (i + 1) (by simpa only [eqSX_eq] using h)
        exact ⟨r, h1, h2⟩
      · exact h.elim
  exact gen es 0 h

theorem map_x {o : Nat} {Km : List (AV × AV) → Prop} (h : xMap False o x Km) : ∃ es, o < x.st.n ∧ x.st.at_ o = .map es ∧ Km es := by
  unfold xMap at h
  split at h
  case h_2 => exact h.elim
  rename_i hlt
  split at h
  case h_2 => exact h.elim
  rename_i es t hx
  have : o < x.n := by simpa [Nat.blt_eq] using hlt
  exact ⟨es, this, by simp only [X.st, hx, XO.obj], h⟩

theorem not_le_lt (a b : Int) : (!decide (b ≤ a)) = decide (a < b) := by
  rw [Bool.eq_iff_iff]; simp [Int.not_le]

theorem bin_x {op : BinOp} {t : TypeId} {v y : AV} (h : xBin False T op t v y x K) : wBin T op t v y x.st (GoOn K) := by
  unfold xBin at h
  split at h
  case h_1 k a k' b =>
    unfold wBin
    simp only
    cases op <;> simp only at h ⊢
    case shl =>
      split at h
      · exact ⟨Int.natCast_nonneg _, go_here h⟩
      · exact h.elim
    case shr =>
      split at h
      · exact ⟨Int.natCast_nonneg _, go_here h⟩
      · exact h.elim
    case quo =>
      split at h
      · rename_i h1 h2
        rw [eqInt_eq] at h2
        exact ⟨h1, by simpa using h2, go_here h⟩
      · exact h.elim
    case rem =>
      split at h
      · rename_i h1 h2
        rw [eqInt_eq] at h2
        exact ⟨h1, by simpa using h2, go_here h⟩
      · exact h.elim
    all_goals
      cases hs : sameInt k k' <;> rw [hs] at h <;> simp only [intBin, eqInt_eq, leInt_eq] at h ⊢
      all_goals first
        | exact h.elim
        | exact go_here h
        | (rw [not_le_lt] at h; exact go_here h)
  case h_2 a b => exact strBin_x h
  case h_3 a b =>
    unfold wBin
    simp only
    split at h
    · rename_i hd; simp only [hd]; exact go_here h
    · rename_i hd; simp only [hd]; exact go_here h
    · exact h.elim
  case h_4 xs ys =>
    unfold wBin
    simp only
    split at h
    · rename_i hp
      refine ⟨hp, ?_⟩
      rw [eqLX_eq] at h
      split at h
      · rename_i he; simp only [he]; exact go_here h
      · rename_i he; simp only [he]; exact go_here h
      · exact h.elim
    · exact h.elim
  case h_5 o g off o' g' off' =>
    unfold wBin
    simp only
    split at h
    case h_2 => exact h.elim
    rename_i e h1 h2 h3 hd
    split at h
    · exact h.elim
    rename_i z hz
    obtain ⟨cells, wm, h4, h5, h⟩ := rowN_x h
    refine ⟨⟨Nat.eq_of_beq_eq_true h1, Nat.eq_of_beq_eq_true h2, Nat.eq_of_beq_eq_true h3⟩, ⟨e, hd, by omega⟩, ⟨cells, wm, h4, h5⟩, ?_⟩
    split at h
    · exact go_here h
    · exact go_here h
    · exact h.elim
  case h_6 h1 h2 h3 h4 h5 =>
    unfold wBin
    split at h
    · rename_i he
      split
      case h_6 => simp only [he]; exact go_here h
      all_goals first
        | exact (h1 _ _ _ _ rfl rfl).elim
        | exact (h5 _ _ _ _ _ _ rfl rfl).elim
        | simp_all
    · rename_i he
      split
      case h_6 => simp only [he]; exact go_here h
      all_goals first
        | exact (h1 _ _ _ _ rfl rfl).elim
        | exact (h5 _ _ _ _ _ _ rfl rfl).elim
        | simp_all
    · exact h.elim

theorem unB_x {Ks : List UInt8 → Prop} : ∀ {cells : List AV}, unB False cells Ks → ∃ s : List UInt8, cells = s.map byteA ∧ Ks s := by
  intro cells
  induction cells generalizing Ks with
  | nil => intro h; exact ⟨[], rfl, h⟩
  | cons c cells ih =>
    intro h
    unfold unB at h
    split at h
    · rename_i h0; cases h0
    · rename_i K' n l h0
      injection h0 with e1 e2
      subst e1 e2
      split at h
      · rename_i hb
        obtain ⟨s, h1, h2⟩ := ih h
        refine ⟨UInt8.ofNat n :: s, ?_, h2⟩
        have hn : n < 256 := by simpa [Nat.blt_eq] using hb
        simp only [List.map_cons, byteA, h1]
        congr 2
        simp [UInt8.toNat_ofNat]
        omega
      · exact h.elim
    · exact h.elim

theorem isStr_x {t : TypeId} (h : isStr T t = true) : T.td t = .str := by
  unfold isStr at h
  cases hd : T.td t <;> simp only [hd] at h <;> first | rfl | cases h
theorem isU8_x {t : TypeId} (h : isU8 T t = true) : T.td t = .int .u8 := by
  unfold isU8 at h
  split at h
  · assumption
  · cases h
theorem isBytes_x {t : TypeId} (h : isBytes T t = true) : ∃ e, T.td t = .sl e ∧ T.td e = .int .u8 := by
  unfold isBytes at h
  split at h
  · rename_i e he; exact ⟨e, he, isU8_x h⟩
  · cases h

theorem conv_x {mt : Bool} {src dst : TypeId} {v : AV} (h : xConv False T mt src dst v x K) : wConv T mt src dst v x.st (GoOn K) := by
  unfold xConv at h
  unfold wConv
  split at h
  · exact h.elim
  rename_i hne
  refine ⟨hne, ?_⟩
  split at h
  case h_9 => exact h.elim
  case h_1 k k' n hd => simp only [hd]; exact go_here h
  case h_2 s hd =>
    simp only [hd]
    split at h
    · rename_i hs; exact ⟨isStr_x hs, go_here h⟩
    · exact h.elim
  case h_3 e s hd =>
    simp only [hd]
    split at h
    case h_2 => exact h.elim
    rename_i h1 h2 h3
    refine ⟨isStr_x h1, isU8_x h2, Nat.eq_of_beq_eq_true h3, ?_⟩
    cases mt with
    | true =>
      simp only [fList_eq] at h
      obtain ⟨x', h4, h5⟩ := X.pushK_st h
      exact ⟨x', h5, h4⟩
    | false =>
      simp only [fList_eq] at h
      exact go_here h
  case h_4 hd =>
    simp only [hd]
    split at h
    · rename_i hs; exact ⟨isBytes_x hs, go_here h⟩
    · exact h.elim
  case h_5 f len cells hd =>
    simp only [hd]
    split at h
    case h_2 => exact h.elim
    rename_i hs
    obtain ⟨s, h1, h2⟩ := unB_x h
    split at h2
    · rename_i hl; exact ⟨isBytes_x hs, s, Nat.eq_of_beq_eq_true hl, h1, go_here h2⟩
    · exact h2.elim
  case h_6 o g off len esz hd =>
    simp only [hd]
    split at h
    case h_2 => exact h.elim
    rename_i hs
    obtain ⟨cells, wm, h1, h2, h3⟩ := row_x h
    obtain ⟨s, h4, h5⟩ := unB_x h3
    split at h5
    · rename_i hl; exact ⟨isBytes_x hs, cells, wm, h1, h2, s, Nat.eq_of_beq_eq_true hl, h4, go_here h5⟩
    · exact h5.elim
  case h_7 o g off hd =>
    simp only [hd]
    split at h
    case h_2 => exact h.elim
    rename_i e he
    split at h
    · exact h.elim
    rename_i z hz
    obtain ⟨cells, wm, h1, h2, h3⟩ := rowN_x h
    split at h3
    · rename_i hb; exact ⟨⟨e, he, by omega⟩, ⟨cells, wm, h1, h2, by simpa [Nat.blt_eq] using hb⟩, go_here h3⟩
    · exact h3.elim
  case h_8 e o g hd =>
    simp only [hd]
    split at h
    case h_2 => exact h.elim
    rename_i z e' h1 h2 h3
    split at h
    case h_2 => exact h.elim
    rename_i hb
    obtain rfl := Nat.eq_of_beq_eq_true hb
    obtain ⟨cells, wm, h4, h5, h6⟩ := rowN_x h
    obtain ⟨h7, h8⟩ := le_x h6
    exact ⟨h1, by omega, trivial, h3, ⟨cells, wm, h4, h5, by omega⟩, go_here h8⟩

theorem src_x {esz : Nat} {v : AV} {Kx : Nat → List AV → Prop} (h : xSrc False esz v x Kx) : srcA esz v x.st Kx := by
  unfold xSrc at h
  unfold srcA
  split at h
  case h_5 => exact h.elim
  case h_1 => exact h
  case h_2 n cells =>
    simp only [fList_eq] at h
    split at h
    · rename_i hb; exact ⟨_, rfl, Nat.eq_of_beq_eq_true hb, h⟩
    · exact h.elim
  case h_3 s =>
    split at h
    · rw [fList_eq] at h; exact ⟨rfl, h⟩
    · exact h.elim
  case h_4 o g off n esz' =>
    split at h
    case h_2 => exact h.elim
    rename_i hb
    obtain ⟨cells, wm, h1, h2, h3⟩ := row_x h
    simp only [fList_eq] at h3
    split at h3
    · rename_i hl; exact ⟨Nat.eq_of_beq_eq_true hb, cells, wm, _, h1, h2, rfl, Nat.eq_of_beq_eq_true hl, h3⟩
    · exact h3.elim

theorem src_mono {esz : Nat} {v : AV} {σ : St} {Kx Kx' : Nat → List AV → Prop} (h : srcA esz v σ Kx) (hk : ∀ n xs, Kx n xs → Kx' n xs) : srcA esz v σ Kx' := by
  unfold srcA at h ⊢
  split at h
  case h_5 => exact h.elim
  case h_1 => exact hk _ _ h
  case h_2 => obtain ⟨r, h1, h2, h⟩ := h; exact ⟨r, h1, h2, hk _ _ h⟩
  case h_3 => exact ⟨h.1, hk _ _ h.2⟩
  case h_4 => obtain ⟨h0, c, wm, r, h1, h2, h3, h4, h⟩ := h; exact ⟨h0, c, wm, r, h1, h2, h3, h4, hk _ _ h⟩

theorem makeSlice_x {t : TypeId} {l c : AV} (h : xMakeSlice False T t l c x K) : wMakeSlice T t l c x.st (GoOn K) := by
  unfold xMakeSlice at h
  unfold wMakeSlice
  split at h
  case h_2 => exact h.elim
  rename_i e k1 l k2 k hd
  simp only [hd]
  split at h
  case h_2 => exact h.elim
  rename_i z hz hb
  rw [hz]
  obtain ⟨h1, h⟩ := le_x h
  obtain ⟨h2, h⟩ := le_x h
  rw [fList_eq] at h
  obtain ⟨x', h4, h5⟩ := X.pushK_st h
  exact ⟨by omega, Nat.le_of_ble_eq_true hb, l, k, rfl, rfl, h1, h2, x', h5, h4⟩

theorem miss_x {et : TypeId} {c : Bool} (h : xMiss False T et c x K) : wFound T et c none x.st (GoOn K) := by
  unfold xMiss at h
  unfold wFound
  simp only
  split at h
  · exact h.elim
  · rename_i z hz
    exact ⟨by omega, val_mono (val_x h) fun v hk => go_here hk⟩

theorem lookup_x {t : TypeId} {m k : AV} {c : Bool} (h : xLookup False T t m k c x K) : wLookup T t m k c x.st (GoOn K) := by
  unfold xLookup at h
  unfold wLookup
  split at h
  case h_2 => exact h.elim
  rename_i kt et hd
  simp only [hd]
  split at h
  case h_2 => exact h.elim
  rename_i hkey
  refine ⟨hkey, ?_⟩
  split at h
  · exact miss_x h
  · obtain ⟨es, h1, h2, h3⟩ := map_x h
    obtain ⟨r, h4, h5⟩ := find_x h3
    refine ⟨es, h1, h2, ?_⟩
    simp only [h4]
    rcases h5 with ⟨rfl, h5⟩ | ⟨i, v, rfl, h5⟩
    · exact miss_x h5
    · exact go_here h5
  · exact h.elim

theorem mapUpd_x {t : TypeId} {m k v : AV} (h : xMapUpd False T t m k v x K) : wMapUpd T t m k v x.st (GoOn K) := by
  unfold xMapUpd at h
  unfold wMapUpd
  split at h
  case h_2 => exact h.elim
  rename_i kt et o hd
  simp only [hd]
  split at h
  case h_2 => exact h.elim
  rename_i hkey hb
  obtain ⟨es, h1, h2, h3⟩ := map_x h
  obtain ⟨r, h4, h5⟩ := find_x h3
  refine ⟨hkey, es, h1, Nat.le_of_ble_eq_true hb, h2, ?_⟩
  simp only [h4]
  rcases h5 with ⟨rfl, h5⟩ | ⟨i, v', rfl, h5⟩
  · rw [fList_eq] at h5
    obtain ⟨x', h6, h7⟩ := set_x h5
    exact ⟨x', h6, h7⟩
  · simp only [fList_eq] at h5
    obtain ⟨x', h6, h7⟩ := set_x h5
    exact ⟨x', h6, h7⟩

theorem keep_x {o : Nat} {e : TypeId} : xKeep (x.objs.get noObj o).ty e = keepTy x.st o e := rfl

theorem append_x {t : TypeId} {s y : AV} (h : xAppend False T t s y x K) : wAppend T t s y x.st (GoOn K) := by
  unfold xAppend at h
  unfold wAppend
  cases hd : T.td t <;> simp only [hd] at h ⊢
  case sl e =>
    split at h
    case h_2 => exact h.elim
    rename_i z hz hb
    rw [hz]
    refine ⟨by omega, Nat.le_of_ble_eq_true hb, src_mono (src_x h) fun n xs h => ?_⟩
    split at h
    case h_2 => exact h.elim
    rename_i hall
    refine ⟨hall, ?_⟩
    split at h
    · split at h
      · rename_i hs; exact .inl ⟨rfl, hs, go_here h⟩
      · exact h.elim
    · rename_i n
      refine .inr ⟨by omega, ?_⟩
      split at h
      · obtain ⟨h1, h⟩ := le_x h
        obtain ⟨x', h4, h5⟩ := X.pushK_st h
        exact ⟨h1, x', h5, h4⟩
      · rename_i len cells
        obtain ⟨h1, h⟩ := le_x h
        rw [fList_eq] at h
        split at h
        case h_2 => exact h.elim
        rename_i hl
        rw [fList_eq] at h
        obtain ⟨x', h4, h5⟩ := X.pushK_st h
        exact ⟨h1, _, rfl, Nat.eq_of_beq_eq_true hl, x', h5, h4⟩
      · rename_i o g len esz
        split at h
        case h_2 => exact h.elim
        rename_i he hbase
        obtain ⟨h1, h⟩ := le_x h
        obtain ⟨cells, wm, h2, h3, h⟩ := row_x h
        obtain ⟨h4, h⟩ := le_x h
        obtain ⟨h5, h⟩ := le_x h
        rw [fList_eq] at h
        obtain ⟨x', h6, h7⟩ := X.setK_st h
        exact ⟨rfl, Nat.eq_of_beq_eq_true he, h1, cells, wm, h2, Nat.le_of_ble_eq_true hbase, h3, h4, h5, x', h7, h6⟩
      · exact h.elim

end
end Go.Proofs.QQ
end
