/- A part of the proof that XlatePolicy returns true at every argument: the reader machine and this translation under it. Conditions: those that each theorem bears. -/
import Derived.Test.YtcdjeickpdlbfaaGreatDoorQ09
section
set_option linter.unusedVariables false
set_option linter.unusedSimpArgs false
namespace Go.Proofs.QQ
open Go

variable {P : Program} {T : Tab}

/-- The slots that an operation looks at. -/
def looks (all : List Oper) (o : Oper) : List Nat :=
  (o.op.operands.toList.filterMap fun | .tmp t => some t | _ => none) ++
  (match o.guard with
   | some (g, _) => (slotOf all g).toList
   | none => [])

/-- The operations that one must wait for, straight. -/
def dirs (o : Oper) : List Nat := (o.after.toList.filter (Region.binds .any)).map (·.on)

def bitAt (B : List Nat) (j i : Nat) : Bool := (B.getD j 0).testBit i

def effOf (M : Nat → Bool) (o : Oper) : Bool := isEff (wMt M o.dst) o.op

/-- What is looked at ahead of the proof: B tells who waits for whom, L is an order in which each read comes as early as may be. -/
structure Orders (M : Nat → Bool) (all : List Oper) (B L : List Nat) : Prop where
  perm : L.length = all.length ∧ L.Nodup ∧ (∀ i, i ∈ L → i < all.length) ∧ ∀ i, i < all.length → i ∈ L
  dirsLt : ∀ (j : Nat) (o : Oper), all[j]? = some o → ∀ i ∈ dirs o, i < j
  just : ∀ (j : Nat) (o : Oper) (i : Nat), all[j]? = some o → bitAt B j i = true → i ∈ dirs o ∨ ∃ d ∈ dirs o, bitAt B d i = true
  uniq : ∀ (i j : Nat) (o o' : Oper) (d : Nat), all[i]? = some o → all[j]? = some o' → o.dst = some d → o'.dst = some d → i = j
  apart : ∀ (i j : Nat) (o o' : Oper) (d : Nat), all[i]? = some o → all[j]? = some o' → o.dst = some d → d ∈ looks all o' → bitAt B j i = true ∨ bitAt B i j = true
  effs : ∀ (i j : Nat) (o o' : Oper), all[i]? = some o → all[j]? = some o' → effOf M o = true → effOf M o' = true → i ≠ j → bitAt B j i = true ∨ bitAt B i j = true
  lin : ∀ (i j : Nat) (o : Oper), all[j]? = some o → bitAt B j i = true → L.idxOf i < L.idxOf j
  early : ∀ (i j : Nat) (o o' : Oper), all[i]? = some o → all[j]? = some o' → effOf M o = false → effOf M o' = true → bitAt B i j = false → L.idxOf i < L.idxOf j

/-- A guard's word. -/
def gd (all : List Oper) (N : Nat) (o : Oper) (e : Env) : Option Bool :=
  match o.guard with
  | none => some true
  | some (j, want) => match slotOf all j with
    | none => none
    | some d => match Nat.blt d N, e d with
      | true, .bool b => some (b == want)
      | true, .tup [] => some false
      | _, _ => none

/-- What was read stays, of all reads that need not stand ahead. -/
def stabAll (P : Program) (T : Tab) (M : Nat → Bool) (N : Nat) (all : List Oper) (B : List Nat) (k : Nat) (σ' : St) : List (Nat × Env × AV) → Prop
  | [] => True
  | (i, e, v) :: r => (match bitAt B k i with
      | true => True
      | false => match all[i]? with
        | some o => match gd all N o e with
          | some true => stabA P T (wMt M o.dst) o.op e N σ' v
          | _ => True
        | none => True) ∧ stabAll P T M N all B k σ' r

/-- A region that draws its order, in the order L. -/
def wDraw (P : Program) (T : Tab) (M : Nat → Bool) (N : Nat) (all : List Oper) (B : List Nat) : List Nat → List (Nat × Env × AV) → Env → St → (Env → St → Prop) → Prop
  | [], pend, e, σ, K => K e σ
  | k :: L, pend, e, σ, K => match all[k]? with
    | none => False
    | some o => match gd all N o e with
      | none => False
      | some false => wPut o.dst N e undefA fun e' => wDraw P T M N all B L (match effOf M o with | true => pend | false => (k, e, undefA) :: pend) e' σ K
      | some true => match effOf M o with
        | false => wOp P T (wMt M o.dst) o.op e N σ fun v _ => wPut o.dst N e v fun e' => wDraw P T M N all B L ((k, e, v) :: pend) e' σ K
        | true => wOp P T (wMt M o.dst) o.op e N σ fun v σ' => stabAll P T M N all B k σ' pend ∧ wPut o.dst N e v fun e' => wDraw P T M N all B L pend e' σ' K

/-! ### Soundness -/

section
variable {M : Nat → Bool} {all : List Oper} {B L : List Nat}

theorem closed_bits (h : Orders M all B L) (D : Nat → Prop) (hD : ∀ j o, all[j]? = some o → D j → ∀ i ∈ dirs o, D i) : ∀ j i o, all[j]? = some o → D j → bitAt B j i = true → D i := by
  intro j
  induction j using Nat.strongRecOn with
  | _ j ih =>
    intro i o ho hj hb
    rcases h.just j o i ho hb with h1 | ⟨d, h1, h2⟩
    · exact hD j o ho hj i h1
    · have hlt := h.dirsLt j o ho d h1
      have hd := hD j o ho hj d h1
      have hjl : j < all.length := (List.getElem?_eq_some_iff.1 ho).1
      exact ih d hlt i _ (List.getElem?_eq_getElem (by omega)) hd h2

/-- All that one waits for is there, where all is there that one waits for straight. -/
theorem ready_bits (h : Orders M all B L) (D : Nat → Prop) (hD : ∀ j o, all[j]? = some o → D j → ∀ i ∈ dirs o, D i) {j : Nat} {o : Oper} (ho : all[j]? = some o) (hr : ∀ i ∈ dirs o, D i) {i : Nat} (hb : bitAt B j i = true) : D i := by
  rcases h.just j o i ho hb with h1 | ⟨d, h1, h2⟩
  · exact hr i h1
  · have hlt := h.dirsLt j o ho d h1
    have hjl : j < all.length := (List.getElem?_eq_some_iff.1 ho).1
    exact closed_bits h D hD d i _ (List.getElem?_eq_getElem (by omega)) (hr d h1) h2

theorem stab_at {N : Nat} {k : Nat} {σ' : St} : ∀ {pend : List (Nat × Env × AV)}, stabAll P T M N all B k σ' pend → ∀ {i : Nat} {e : Env} {v : AV} {o : Oper}, (i, e, v) ∈ pend → all[i]? = some o → bitAt B k i = false → gd all N o e = some true → stabA P T (wMt M o.dst) o.op e N σ' v
  | [], _, _, _, _, _, hm, _, _, _ => absurd hm (by simp)
  | (j, e', v') :: r, hs, i, e, v, o, hm, ho, hb, hg => by
    rcases List.mem_cons.1 hm with h1 | h1
    · injection h1 with h1 h2
      injection h2 with h2 h3
      subst h1 h2 h3
      have := hs.1
      rw [hb] at this
      simp only [ho, hg] at this
      exact this
    · exact stab_at hs.2 h1 ho hb hg

/-- The state of a proof between two operations of the model: so many of L are done by the machine (c), these by the model (D). -/
structure Mid (P : Program) (T : Tab) (M : Nat → Bool) (N : Nat) (all : List Oper) (B L : List Nat) (e0 : Env) (D : Nat → Prop) (c : Nat) (en : Nat → Env) (val : Nat → AV) (σ : St) (pend : List (Nat × Env × AV)) : Prop where
  le : c ≤ L.length
  sub : ∀ i, D i → i < all.length ∧ L.idxOf i < c
  closed : ∀ j o, all[j]? = some o → D j → ∀ i ∈ dirs o, D i
  eff : ∀ i o, all[i]? = some o → L.idxOf i < c → effOf M o = true → D i
  writ : ∀ m, m ≤ c → ∀ t, (∀ j o, all[j]? = some o → L.idxOf j < m → o.dst = some t → en m t = val j) ∧ ((∀ j o, all[j]? = some o → L.idxOf j < m → o.dst ≠ some t) → en m t = e0 t)
  reads : ∀ i o, all[i]? = some o → L.idxOf i < c → effOf M o = false → ¬ D i → (gd all N o (en (L.idxOf i)) = some true ∧ Gives P T (wMt M o.dst) o.op (en (L.idxOf i)) N σ (val i)) ∨ (gd all N o (en (L.idxOf i)) = some false ∧ val i = undefA)
  pend : ∀ i o, all[i]? = some o → L.idxOf i < c → effOf M o = false → (i, en (L.idxOf i), val i) ∈ pend
  slot : ∀ i o d, all[i]? = some o → L.idxOf i < c → o.dst = some d → d < N

open Classical in
/-- The environment as the model has it: what the machine read ahead is not yet there. -/
noncomputable def late (all : List Oper) (L : List Nat) (e0 : Env) (D : Nat → Prop) (c : Nat) (e : Env) : Env := fun t =>
  if ∃ i o, all[i]? = some o ∧ L.idxOf i < c ∧ ¬ D i ∧ o.dst = some t then e0 t else e t

theorem idx_lt (h : Orders M all B L) {i : Nat} (hi : i < all.length) : L.idxOf i < L.length := by
  have hm : i ∈ L := h.perm.2.2.2 i hi
  exact List.idxOf_lt_length_iff.2 hm


theorem idx_of_get (h : Orders M all B L) {c k : Nat} (hk : L[c]? = some k) : L.idxOf k = c := by
  obtain ⟨hc, rfl⟩ := List.getElem?_eq_some_iff.1 hk
  exact List.Nodup.idxOf_getElem h.perm.2.1 c hc

theorem idx_succ (h : Orders M all B L) {c k i : Nat} (hk : L[c]? = some k) (hi : i < all.length) : L.idxOf i < c + 1 ↔ L.idxOf i < c ∨ i = k := by
  constructor
  · intro hlt
    by_cases h1 : L.idxOf i < c
    · exact .inl h1
    · have he : L.idxOf i = c := by omega
      right
      have hl := idx_lt h hi
      have h2 : L[L.idxOf i]'hl = i := List.getElem_idxOf hl
      have h3 : L[L.idxOf i]? = some i := by rw [List.getElem?_eq_getElem hl, h2]
      rw [he, hk] at h3
      exact (Option.some.inj h3).symm
  · rintro (h1 | rfl)
    · omega
    · rw [idx_of_get h hk]; omega

/-- The machine goes on by one operation. -/
theorem mid_step (h : Orders M all B L) {N : Nat} {e0 : Env} {D D' : Nat → Prop} {c : Nat} {en : Nat → Env} {val : Nat → AV} {σ σ' : St} {pend pend' : List (Nat × Env × AV)}
    (mid : Mid P T M N all B L e0 D c en val σ pend) {k : Nat} (hk : L[c]? = some k) {o : Oper} (ho : all[k]? = some o) {v : AV} {e' : Env} (hput : (o.dst = none ∧ e' = en c) ∨ ∃ d, o.dst = some d ∧ d < N ∧ e' = upd (en c) d v)
    (hD : ∀ i, D' i ↔ D i ∨ (i = k ∧ effOf M o = true)) (hdirs : effOf M o = true → ∀ i ∈ dirs o, D i)
    (hreads : ∀ i o, all[i]? = some o → L.idxOf i < c → effOf M o = false → ¬ D i → (gd all N o (en (L.idxOf i)) = some true ∧ Gives P T (wMt M o.dst) o.op (en (L.idxOf i)) N σ' (val i)) ∨ (gd all N o (en (L.idxOf i)) = some false ∧ val i = undefA))
    (hk2 : effOf M o = false → (gd all N o (en c) = some true ∧ Gives P T (wMt M o.dst) o.op (en c) N σ' v) ∨ (gd all N o (en c) = some false ∧ v = undefA))
    (hp1 : ∀ x, x ∈ pend → x ∈ pend') (hp2 : effOf M o = false → (k, en c, v) ∈ pend') :
    Mid P T M N all B L e0 D' (c + 1) (fun m => if m = c + 1 then e' else en m) (fun i => if i = k then v else val i) σ' pend' := by
  have hc : c < L.length := (List.getElem?_eq_some_iff.1 hk).1
  have hkl : k < all.length := (List.getElem?_eq_some_iff.1 ho).1
  have hik := idx_of_get h hk
  have lt_of : ∀ {i : Nat} {o : Oper}, all[i]? = some o → i < all.length := fun hi => (List.getElem?_eq_some_iff.1 hi).1
  have ne_of : ∀ {i : Nat}, L.idxOf i < c → i ≠ k := fun hi he => by subst he; omega
  exact {
    le := hc
    sub := fun i hi => by
      rcases (hD i).1 hi with h1 | ⟨rfl, _⟩
      · have := mid.sub i h1; exact ⟨this.1, by omega⟩
      · exact ⟨hkl, by omega⟩
    closed := fun j oj hj hd i hi => by
      rcases (hD j).1 hd with h1 | ⟨rfl, he⟩
      · exact (hD i).2 (.inl (mid.closed j oj hj h1 i hi))
      · rw [ho] at hj
        obtain rfl := Option.some.inj hj
        exact (hD i).2 (.inl (hdirs he i hi))
    eff := fun i oi hi hlt he => by
      rcases (idx_succ h hk (lt_of hi)).1 hlt with h1 | rfl
      · exact (hD i).2 (.inl (mid.eff i oi hi h1 he))
      · rw [ho] at hi
        obtain rfl := Option.some.inj hi
        exact (hD i).2 (.inr ⟨rfl, he⟩)
    writ := fun m hm t => by
      by_cases hmc : m = c + 1
      · subst hmc
        simp only [if_true]
        obtain ⟨w1, w2⟩ := mid.writ c (Nat.le_refl _) t
        constructor
        · intro j oj hj hlt hd
          rcases (idx_succ h hk (lt_of hj)).1 hlt with h1 | rfl
          · rw [if_neg (ne_of h1)]
            rcases hput with ⟨_, rfl⟩ | ⟨d, h2, h3, rfl⟩
            · exact w1 j oj hj h1 hd
            · rw [upd_ne _ _ (fun (e : t = d) => ne_of h1 (h.uniq j k oj o d hj ho (e ▸ hd) h2))]
              exact w1 j oj hj h1 hd
          · rw [if_pos rfl]
            rw [ho] at hj
            obtain rfl := Option.some.inj hj
            rcases hput with ⟨h2, _⟩ | ⟨d, h2, h3, rfl⟩
            · rw [h2] at hd; cases hd
            · rw [h2] at hd
              obtain rfl := Option.some.inj hd
              exact upd_same _ _ _
        · intro hno
          have hold := w2 fun j oj hj hlt => hno j oj hj (by omega)
          rcases hput with ⟨_, rfl⟩ | ⟨d, h2, h3, rfl⟩
          · exact hold
          · rw [upd_ne _ _ (fun (e : t = d) => hno k o ho (by omega) (by rw [h2, e]))]
            exact hold
      · simp only [if_neg hmc]
        obtain ⟨w1, w2⟩ := mid.writ m (by omega) t
        refine ⟨fun j oj hj hlt hd => ?_, w2⟩
        rw [if_neg (ne_of (by omega))]
        exact w1 j oj hj hlt hd
    reads := fun i oi hi hlt he hd => by
      rcases (idx_succ h hk (lt_of hi)).1 hlt with h1 | rfl
      · simp only [if_neg (ne_of h1), if_neg (show L.idxOf i ≠ c + 1 by omega)]
        exact hreads i oi hi h1 he fun hdi => hd ((hD i).2 (.inl hdi))
      · rw [ho] at hi
        obtain rfl := Option.some.inj hi
        simp only [hik, if_true, if_neg (show c ≠ c + 1 by omega)]
        exact hk2 he
    pend := fun i oi hi hlt he => by
      rcases (idx_succ h hk (lt_of hi)).1 hlt with h1 | rfl
      · simp only [if_neg (ne_of h1), if_neg (show L.idxOf i ≠ c + 1 by omega)]
        exact hp1 _ (mid.pend i oi hi h1 he)
      · rw [ho] at hi
        obtain rfl := Option.some.inj hi
        simp only [hik, if_true, if_neg (show c ≠ c + 1 by omega)]
        exact hp2 he
    slot := fun i oi d hi hlt hd => by
      rcases (idx_succ h hk (lt_of hi)).1 hlt with h1 | rfl
      · exact mid.slot i oi d hi h1 hd
      · rw [ho] at hi
        obtain rfl := Option.some.inj hi
        rcases hput with ⟨h2, _⟩ | ⟨d', h2, h3, rfl⟩
        · rw [h2] at hd; cases hd
        · rw [h2] at hd
          obtain rfl := Option.some.inj hd
          exact h3 }

/-- At an operation that is ready, what it looks at is in the model's frame as the machine had it. -/
theorem late_at (h : Orders M all B L) {N : Nat} {e0 : Env} {D : Nat → Prop} {c : Nat} {en : Nat → Env} {val : Nat → AV} {σ : St} {pend : List (Nat × Env × AV)}
    (mid : Mid P T M N all B L e0 D c en val σ pend) {i : Nat} {o : Oper} (ho : all[i]? = some o) (hni : ¬ D i) (hr : ∀ j ∈ dirs o, D j) (hpos : L.idxOf i ≤ c) {t : Nat} (ht : t ∈ looks all o) :
    late all L e0 D c (en c) t = en (L.idxOf i) t := by
  have lt_of : ∀ {i : Nat} {o : Oper}, all[i]? = some o → i < all.length := fun hi => (List.getElem?_eq_some_iff.1 hi).1
  unfold late
  split
  · rename_i hx
    obtain ⟨j, oj, hj, hlt, hnd, hd⟩ := hx
    refine (((mid.writ _ hpos t).2 fun j' oj' hj' hlt' hd' => ?_)).symm
    have : j' = j := h.uniq j' j oj' oj t hj' hj hd' hd
    subst this
    rcases h.apart j' i oj o t hj ho hd ht with hb | hb
    · exact hnd (ready_bits h D mid.closed ho hr hb)
    · have := h.lin i j' oj hj hb
      omega
  · rename_i hx
    by_cases hw : ∃ (j : Nat) (oj : Oper), all[j]? = some oj ∧ oj.dst = some t
    · obtain ⟨j, oj, hj, hd⟩ := hw
      by_cases hji : L.idxOf j < L.idxOf i
      · rw [(mid.writ _ hpos t).1 j oj hj hji hd, (mid.writ c (Nat.le_refl _) t).1 j oj hj (by omega) hd]
      · by_cases hjc : L.idxOf j < c
        · exfalso
          have hdj : D j := by
            rcases Classical.em (D j) with h1 | h1
            · exact h1
            · exact absurd ⟨j, oj, hj, hjc, h1, hd⟩ hx
          rcases h.apart j i oj o t hj ho hd ht with hb | hb
          · have := h.lin j i o ho hb; omega
          · exact hni (closed_bits h D mid.closed j i oj hj hdj hb)
        · have no : ∀ m, m ≤ c → (m ≤ L.idxOf j) → en m t = e0 t := fun m hm hmj => (mid.writ m hm t).2 fun j' oj' hj' hlt' hd' => by
            have : j' = j := h.uniq j' j oj' oj t hj' hj hd' hd
            subst this
            omega
          rw [no c (Nat.le_refl _) (by omega), no _ hpos (by omega)]
    · have no : ∀ m, m ≤ c → en m t = e0 t := fun m hm => (mid.writ m hm t).2 fun j' oj' hj' _ hd' => hw ⟨j', oj', hj', hd'⟩
      rw [no c (Nat.le_refl _), no _ hpos]


/-- What is still to come, counted. -/
def todo (n : Nat) (listed : Array Bool) : Nat := (List.range n).countP fun i => !listed.getD i true

theorem countP_one {l : List Nat} (hn : l.Nodup) {p q : Nat → Bool} {k : Nat} (hk : k ∈ l) (hp : p k = true) (hq : q k = false) (ho : ∀ i, i ≠ k → q i = p i) : l.countP q + 1 = l.countP p := by
  induction l with
  | nil => simp at hk
  | cons x l ih =>
    obtain ⟨hx, hn⟩ := List.nodup_cons.1 hn
    by_cases hxk : x = k
    · subst hxk
      have : l.countP q = l.countP p := List.countP_congr fun i hi => by rw [ho i (fun e => hx (e ▸ hi))]
      simp [List.countP_cons, hp, hq, this]
    · have hk' : k ∈ l := by
        rcases List.mem_cons.1 hk with h | h
        · exact absurd h.symm hxk
        · exact h
      have := ih hn hk'
      simp only [List.countP_cons, ho x hxk]
      omega

theorem todo_set {n k : Nat} {listed : Array Bool} (hk : k < n) (hl : listed.size = n) (hf : listed.getD k true = false) : todo n (listed.setIfInBounds k true) + 1 = todo n listed := by
  refine countP_one List.nodup_range (List.mem_range.2 hk) (by simp [hf]) ?_ fun i hi => ?_
  · simp [Array.getD, hl, hk]
  · simp only [Array.getD_eq_getD_getElem?, Array.getElem?_setIfInBounds_ne (Ne.symm hi)]

theorem mem_ready {ops : Array Oper} (hall : ops.toList = all) {listed : Array Bool} {i : Nat} (hm : i ∈ Region.ready .any ops listed) :
    ∃ o, all[i]? = some o ∧ listed.getD i true = false ∧ ∀ j ∈ dirs o, listed.getD j false = true := by
  unfold Region.ready at hm
  obtain ⟨h1, h2⟩ := List.mem_filter.1 hm
  simp only [Bool.and_eq_true, Bool.not_eq_true'] at h2
  obtain ⟨h2, h3⟩ := h2
  cases ho : ops[i]? with
  | none => simp [ho] at h3
  | some o =>
    refine ⟨o, by rw [← hall, Array.getElem?_toList]; exact ho, h2, fun j hj => ?_⟩
    simp only [ho, Option.map_some, Option.getD_some, Array.all_eq_true'] at h3
    unfold dirs at hj
    obtain ⟨e, he, rfl⟩ := List.mem_map.1 hj
    obtain ⟨he1, he2⟩ := List.mem_filter.1 he
    have := h3 e (by simpa using he1)
    simpa [he2] using this

/-- While anything is left, something is ready. -/
theorem ready_of (h : Orders M all B L) {ops : Array Oper} (hall : ops.toList = all) {listed : Array Bool} (hl : listed.size = all.length) {i : Nat} (hi : i < all.length) (hf : listed.getD i true = false) : Region.ready .any ops listed ≠ [] := by
  induction i using Nat.strongRecOn with
  | _ i ih =>
    have ho : all[i]? = some all[i] := List.getElem?_eq_getElem hi
    by_cases hd : ∃ j ∈ dirs all[i], listed.getD j true = false
    · obtain ⟨j, h1, h2⟩ := hd
      have := h.dirsLt i _ ho j h1
      exact ih j this (by omega) h2
    · intro hnil
      have hm : i ∈ Region.ready .any ops listed := by
        unfold Region.ready
        have hsz : ops.size = all.length := by rw [← hall]; simp
        refine List.mem_filter.2 ⟨List.mem_range.2 (by omega), ?_⟩
        have hoi : ops[i]? = some all[i] := by rw [← Array.getElem?_toList, hall]; exact ho
        simp only [hf, Bool.not_false, Bool.true_and, hoi, Option.map_some, Option.getD_some, Array.all_eq_true']
        intro e he
        by_cases hb : Region.binds .any e = true
        · have hj : e.on ∈ dirs all[i] := List.mem_map.2 ⟨e, List.mem_filter.2 ⟨by simpa using he, hb⟩, rfl⟩
          have hlt := h.dirsLt i _ ho _ hj
          have : listed.getD e.on true = true := by
            cases hg : listed.getD e.on true with
            | true => rfl
            | false => exact absurd ⟨_, hj, hg⟩ hd
          have hs : e.on < listed.size := by omega
          have hgo : listed.getD e.on false = true := by
            simp only [Array.getD, hs, dif_pos] at this ⊢
            exact this
          rw [hgo, Bool.or_true]
        · simp [hb]
      rw [hnil] at hm
      exact absurd hm (by simp)

theorem gd_congr {N : Nat} {o : Oper} {e e' : Env} (h : ∀ t ∈ looks all o, e t = e' t) : gd all N o e = gd all N o e' := by
  unfold gd
  split
  · rfl
  · rename_i j want hg
    split
    · rfl
    · rename_i d hd
      rw [h d (by simp [looks, hg, hd])]

theorem ev_congr {N : Nat} {o : Oper} {e e' : Env} (h : ∀ t ∈ looks all o, e t = e' t) : ∀ x ∈ o.op.operands, ev T e N x = ev T e' N x := by
  intro x hx
  cases x with
  | tmp t =>
    simp only [ev]
    rw [h t (by
      unfold looks
      exact List.mem_append.2 (.inl (List.mem_filterMap.2 ⟨.tmp t, by simpa using hx, rfl⟩)))]
  | _ => rfl

/-- What the model's guard says. -/
theorem gd_wanted {γ : Gh} {w : World} {N : Nat} {ops : Array Oper} (hall : ops.toList = all) {o : Oper} {e : Env} {a : Act} {b : Bool} (he : EnvRel γ w e N a) (hg : gd all N o e = some b) : Region.wanted o (yielded ops a.tmps) = b := by
  unfold gd at hg
  split at hg
  · rename_i h0
    cases hg
    simp [Region.wanted, h0]
  · rename_i j want h0
    split at hg
    · cases hg
    · rename_i d hd
      have h1 : (ops[j]?).bind (·.dst) = some d := by
        unfold slotOf at hd
        rw [← hall, Array.getElem?_toList] at hd
        split at hd
        · rename_i o' ho'; rw [ho']; exact hd
        · cases hd
      have h2 : ∀ {v : AV}, e d = v → d < N → ∃ cv, VRel γ w v cv ∧ a.tmps[d]? = some cv := fun {v} hv hdN => by
        have hts : d < a.tmps.size := by rw [he.1]; exact hdN
        have := he.2.2 d hdN
        rw [hv] at this
        refine ⟨_, this, ?_⟩
        rw [Array.getD_eq_getD_getElem?, Array.getElem?_eq_getElem hts]
        simp
      split at hg
      case h_3 => cases hg
      case h_2 hlt hed =>
        cases hg
        have hdN : d < N := by simpa [Nat.blt_eq] using hlt
        obtain ⟨cv, hv, h2⟩ := h2 hed hdN
        cases hv
        have hy : yielded ops a.tmps j = none := by simp [yielded, h1, h2]
        simp only [Region.wanted, h0, hy]
        rfl
      case h_1 b' hlt hed =>
        cases hg
        have hdN : d < N := by simpa [Nat.blt_eq] using hlt
        obtain ⟨cv, hv, h2⟩ := h2 hed hdN
        cases hv
        have hy : yielded ops a.tmps j = some b' := by simp [yielded, h1, h2]
        simp only [Region.wanted, h0, hy]
        cases b' <;> cases want <;> rfl

theorem upon_mono_step (ok : TabOk P T) (pe : PeqOk P T) {γ : Gh} {σ : St} {w : World} {N : Nat} {e : Env} {a : Act} {mt : Bool} {o : Oper} {Q : Exit → Act → World → Prop} {next : Act → World → Prop} {K : AV → St → Prop}
    (hr : Rel T.glob γ σ w) (he : EnvRel γ w e N a) (hw : wOp P T mt o.op e N σ K)
    (hn : ∀ v cv σ' γ' w', VRel γ' w' v cv → Step γ σ.base w γ' w' → Rel T.glob γ' σ' w' → σ'.base = σ.base → K v σ' → next (a.put o.dst cv) w') : o.wp P a w next Q :=
  upon_of (op_sound ok pe hr he hw) fun cv w' ⟨v, σ', γ', h1, h2, h3, h4, h5⟩ => hn v cv σ' γ' w' h1 h2 h3 h4 h5

theorem put_cases {dst : Option Nat} {N : Nat} {e : Env} {v : AV} {K : Env → Prop} (h : wPut dst N e v K) : ∃ e', K e' ∧ ((dst = none ∧ e' = e) ∨ ∃ d, dst = some d ∧ d < N ∧ e' = upd e d v) := by
  unfold wPut at h
  cases dst with
  | none => exact ⟨e, h, .inl ⟨rfl, rfl⟩⟩
  | some d =>
    simp only at h
    split at h
    · rename_i hd
      exact ⟨_, fv_eq h, .inr ⟨d, rfl, by simpa [Nat.blt_eq] using hd, rfl⟩⟩
    · exact h.elim

theorem EnvRel.change {γ : Gh} {w : World} {e e' : Env} {N : Nat} {a : Act} (h : EnvRel γ w e N a) (he : ∀ t, t < N → e t = e' t) : EnvRel γ w e' N a :=
  ⟨h.1, h.2.1, fun t ht => he t ht ▸ h.2.2 t ht⟩

/-- The frame behind an operation that the model has carried out. -/
theorem late_put {γ : Gh} {w : World} {N : Nat} {a : Act} {e0 e e' : Env} {D D' : Nat → Prop} {c c' : Nat} (h : Orders M all B L) (he : EnvRel γ w (late all L e0 D c e) N a) {i : Nat} {o : Oper} (ho : all[i]? = some o) {v : AV} {cv : Value} (hv : VRel γ w v cv)
    (hD : ∀ j, D' j ↔ D j ∨ j = i) (hni : ¬ D i) (hd : ∀ d, o.dst = some d → d < N ∧ e' d = v) (hc : c ≤ c') (hcc : ∀ j oj, all[j]? = some oj → ¬ D' j → (L.idxOf j < c' ↔ L.idxOf j < c)) (hee : ∀ t, o.dst ≠ some t → e' t = e t) :
    EnvRel γ w (late all L e0 D' c' e') N (a.put o.dst cv) := by
  have other : ∀ t, o.dst ≠ some t → late all L e0 D c e t = late all L e0 D' c' e' t := by
    intro t hne
    unfold late
    have : (∃ (j : Nat) (oj : Oper), all[j]? = some oj ∧ L.idxOf j < c ∧ ¬ D j ∧ oj.dst = some t) ↔ (∃ (j : Nat) (oj : Oper), all[j]? = some oj ∧ L.idxOf j < c' ∧ ¬ D' j ∧ oj.dst = some t) := by
      constructor
      · rintro ⟨j, oj, h1, h2, h3, h4⟩
        have hji : j ≠ i := fun hj => by
          subst hj
          rw [ho] at h1
          obtain rfl := Option.some.inj h1
          exact hne h4
        exact ⟨j, oj, h1, by omega, fun hd => (hD j).1 hd |>.elim h3 hji, h4⟩
      · rintro ⟨j, oj, h1, h2, h3, h4⟩
        exact ⟨j, oj, h1, (hcc j oj h1 h3).1 h2, fun hd => h3 ((hD j).2 (.inl hd)), h4⟩
    by_cases hx : ∃ (j : Nat) (oj : Oper), all[j]? = some oj ∧ L.idxOf j < c ∧ ¬ D j ∧ oj.dst = some t
    · rw [if_pos hx, if_pos (this.1 hx)]
    · rw [if_neg hx, if_neg (fun h => hx (this.2 h)), hee t hne]
  cases hdst : o.dst with
  | none => exact (he.put_none cv).change fun t _ => other t (by rw [hdst]; simp)
  | some d =>
    obtain ⟨hdN, hed⟩ := hd d hdst
    have := he.put hdN hv
    refine EnvRel.change this fun t _ => ?_
    by_cases htd : t = d
    · subst htd
      rw [upd_same]
      unfold late
      rw [if_neg, hed]
      rintro ⟨j, oj, h1, h2, h3, h4⟩
      have : j = i := h.uniq j i oj o t h1 ho h4 hdst
      exact h3 ((hD j).2 (.inr this))
    · rw [upd_ne _ _ htd]
      exact other t (by rw [hdst]; intro hh; exact htd (Option.some.inj hh).symm)

theorem drop_cons {c k : Nat} (hk : L[c]? = some k) : L.drop c = k :: L.drop (c + 1) := by
  obtain ⟨hc, rfl⟩ := List.getElem?_eq_some_iff.1 hk
  exact List.drop_eq_getElem_cons hc

/-- Soundness of a region that draws its order. -/
theorem draw_any (ok : TabOk P T) (pe : PeqOk P T) (h : Orders M all B L) {N : Nat} {ops : Array Oper} (hall : ops.toList = all) {Q : Exit → Act → World → Prop} {base : Nat} {γ₀ : Gh} {w₀ : World} {e0 : Env} {K : Env → St → Prop}
    (hQ : ∀ e σ γ w a, EnvRel γ w e N a → Step γ₀ base w₀ γ w → Rel T.glob γ σ w → σ.base = base → K e σ → Q .normal a w) :
    ∀ (fuel : Nat) (listed : Array Bool) (a : Act) (w : World) (γ : Gh) (σ : St) (c : Nat) (en : Nat → Env) (val : Nat → AV) (pend : List (Nat × Env × AV)), listed.size = all.length → todo all.length listed ≤ fuel →
      Mid P T M N all B L e0 (fun i => listed.getD i false = true) c en val σ pend → EnvRel γ w (late all L e0 (fun i => listed.getD i false = true) c (en c)) N a → Step γ₀ base w₀ γ w → Rel T.glob γ σ w → σ.base = base →
      wDraw P T M N all B (L.drop c) pend (en c) σ K → wpAny P .any ops Q fuel listed a w := by
  have lt_of : ∀ {i : Nat} {o : Oper}, all[i]? = some o → i < all.length := fun hi => (List.getElem?_eq_some_iff.1 hi).1
  -- the machine reads ahead as far as it goes
  have ahead : ∀ (d : Nat) (listed : Array Bool) (a : Act) (w : World) (γ : Gh) (σ : St) (c : Nat) (en : Nat → Env) (val : Nat → AV) (pend : List (Nat × Env × AV)), L.length - c = d →
      Mid P T M N all B L e0 (fun i => listed.getD i false = true) c en val σ pend → EnvRel γ w (late all L e0 (fun i => listed.getD i false = true) c (en c)) N a → wDraw P T M N all B (L.drop c) pend (en c) σ K →
      ∃ c' en' val' pend', Mid P T M N all B L e0 (fun i => listed.getD i false = true) c' en' val' σ pend' ∧ EnvRel γ w (late all L e0 (fun i => listed.getD i false = true) c' (en' c')) N a ∧ wDraw P T M N all B (L.drop c') pend' (en' c') σ K ∧
        (c' = L.length ∨ ∃ k o, L[c']? = some k ∧ all[k]? = some o ∧ effOf M o = true) := by
    intro d
    induction d with
    | zero =>
      intro listed a w γ σ c en val pend hd mid he hw
      exact ⟨c, en, val, pend, mid, he, hw, .inl (by have := mid.le; omega)⟩
    | succ d ih =>
      intro listed a w γ σ c en val pend hd mid he hw
      have hc : c < L.length := by omega
      obtain ⟨k, hk⟩ : ∃ k, L[c]? = some k := ⟨L[c], List.getElem?_eq_getElem hc⟩
      have hkl : k < all.length := h.perm.2.2.1 k (List.mem_of_getElem? hk)
      have ho : all[k]? = some all[k] := List.getElem?_eq_getElem hkl
      by_cases heff : effOf M all[k] = true
      · exact ⟨c, en, val, pend, mid, he, hw, .inr ⟨k, _, hk, ho, heff⟩⟩
      have heff : effOf M all[k] = false := by simpa using heff
      have hkD : ¬ (listed.getD k false = true) := fun hx => by
        have := (mid.sub k hx).2
        rw [idx_of_get h hk] at this
        omega
      have go : ∀ (v : AV) (e' : Env), ((all[k].dst = none ∧ e' = en c) ∨ ∃ d, all[k].dst = some d ∧ d < N ∧ e' = upd (en c) d v) →
          ((gd all N all[k] (en c) = some true ∧ Gives P T (wMt M all[k].dst) all[k].op (en c) N σ v) ∨ (gd all N all[k] (en c) = some false ∧ v = undefA)) →
          wDraw P T M N all B (L.drop (c + 1)) ((k, en c, v) :: pend) e' σ K →
          ∃ c' en' val' pend', Mid P T M N all B L e0 (fun i => listed.getD i false = true) c' en' val' σ pend' ∧ EnvRel γ w (late all L e0 (fun i => listed.getD i false = true) c' (en' c')) N a ∧ wDraw P T M N all B (L.drop c') pend' (en' c') σ K ∧
            (c' = L.length ∨ ∃ k o, L[c']? = some k ∧ all[k]? = some o ∧ effOf M o = true) := by
        intro v e' hput hgv hrest
        have mid' := mid_step h mid hk ho (v := v) (e' := e') (D' := fun i => listed.getD i false = true) (pend' := (k, en c, v) :: pend) hput (fun i => by rw [heff]; simp) (fun hx => by rw [heff] at hx; cases hx)
          mid.reads (fun _ => hgv) (fun x hx => List.mem_cons_of_mem _ hx) (fun _ => List.mem_cons_self)
        refine ih listed a w γ σ (c + 1) _ _ _ (by omega) mid' (he.change fun t ht => ?_) (by simpa using hrest)
        simp only [if_true]
        unfold late
        by_cases hx : ∃ (i : Nat) (o : Oper), all[i]? = some o ∧ L.idxOf i < c ∧ ¬ listed.getD i false = true ∧ o.dst = some t
        · rw [if_pos hx, if_pos]
          obtain ⟨i, o, h1, h2, h3, h4⟩ := hx
          exact ⟨i, o, h1, by omega, h3, h4⟩
        · rw [if_neg hx]
          by_cases htk : all[k].dst = some t
          · rw [if_pos ⟨k, _, ho, by rw [idx_of_get h hk]; omega, hkD, htk⟩]
            refine (mid.writ c (Nat.le_refl _) t).2 fun j oj hj hlt hd => ?_
            have : j = k := h.uniq j k oj _ t hj ho hd htk
            subst this
            rw [idx_of_get h hk] at hlt
            omega
          · rw [if_neg]
            · rcases hput with ⟨_, rfl⟩ | ⟨d, h2, h3, rfl⟩
              · rfl
              · rw [upd_ne _ _ (fun (e : t = d) => htk (by rw [h2, e]))]
            · rintro ⟨i, o, h1, h2, h3, h4⟩
              rcases (idx_succ h hk (lt_of h1)).1 h2 with h5 | rfl
              · exact hx ⟨i, o, h1, h5, h3, h4⟩
              · rw [ho] at h1
                obtain rfl := Option.some.inj h1
                exact htk h4
      rw [drop_cons hk] at hw
      simp only [wDraw, ho] at hw
      split at hw
      · exact hw.elim
      · rename_i hg
        obtain ⟨e', hk', hput⟩ := put_cases hw
        rw [heff] at hk'
        exact go undefA e' hput (.inr ⟨hg, rfl⟩) hk'
      · rename_i hg
        rw [heff] at hw
        obtain ⟨v, hk', hgv⟩ := read_split (P := P) heff hw
        obtain ⟨e', hk'', hput⟩ := put_cases hk'
        exact go v e' hput (.inl ⟨hg, hgv⟩) hk''
  -- all is done
  have fin : ∀ (listed : Array Bool) (a : Act) (w : World) (γ : Gh) (σ : St) (c : Nat) (en : Nat → Env) (val : Nat → AV) (pend : List (Nat × Env × AV)), (∀ i, i < all.length → listed.getD i false = true) →
      Mid P T M N all B L e0 (fun i => listed.getD i false = true) c en val σ pend → EnvRel γ w (late all L e0 (fun i => listed.getD i false = true) c (en c)) N a → Step γ₀ base w₀ γ w → Rel T.glob γ σ w → σ.base = base →
      wDraw P T M N all B (L.drop c) pend (en c) σ K → Q .normal a w := by
    intro listed a w γ σ c en val pend hl mid he hst hr hb hw
    have hcl : c = L.length := by
      have := mid.le
      rcases Nat.lt_or_ge c L.length with hc | hc
      · have hk : L[c]? = some L[c] := List.getElem?_eq_getElem hc
        have := (mid.sub _ (hl _ (h.perm.2.2.1 _ (List.getElem_mem hc)))).2
        rw [idx_of_get h hk] at this
        omega
      · omega
    subst hcl
    rw [List.drop_length] at hw
    refine hQ (en L.length) σ γ w a (he.change fun t _ => ?_) hst hr hb hw
    unfold late
    rw [if_neg]
    rintro ⟨i, o, h1, _, h3, _⟩
    exact h3 (hl i (lt_of h1))
  intro fuel
  induction fuel with
  | zero =>
    intro listed a w γ σ c en val pend hl ht mid he hst hr hb hw
    have hdone : ∀ i, i < all.length → listed.getD i true = true := fun i hi => by
      have h0 : todo all.length listed = 0 := by omega
      have := List.countP_eq_zero.1 h0 i (List.mem_range.2 hi)
      simpa using this
    have hdone' : ∀ i, i < all.length → listed.getD i false = true := fun i hi => by
      have h1 := hdone i hi
      have hs : i < listed.size := by omega
      simp only [Array.getD, hs, dif_pos] at h1 ⊢
      exact h1
    refine ⟨?_, fin listed a w γ σ c en val pend hdone' mid he hst hr hb hw⟩
    refine List.eq_nil_iff_forall_not_mem.2 fun i hi => ?_
    obtain ⟨o, h1, h2, _⟩ := mem_ready hall hi
    rw [hdone i (lt_of h1)] at h2
    cases h2
  | succ fuel ih =>
    intro listed a w γ σ c en val pend hl ht mid he hst hr hb hw
    refine ⟨fun hnil => ?_, fun i hi => ?_⟩
    · refine fin listed a w γ σ c en val pend (fun i hi => ?_) mid he hst hr hb hw
      have hs : i < listed.size := by omega
      cases hf : listed.getD i true with
      | false => exact absurd hnil (ready_of h hall hl hi hf)
      | true =>
        simp only [Array.getD, hs, dif_pos] at hf ⊢
        exact hf
    · obtain ⟨o, ho, hnot, hdirs⟩ := mem_ready hall hi
      have hil : i < all.length := lt_of ho
      have his : i < listed.size := by omega
      have hni : ¬ (listed.getD i false = true) := fun hx => by
        simp only [Array.getD, his, dif_pos] at hx hnot
        rw [hx] at hnot
        cases hnot
      have hD : ∀ j, ((listed.setIfInBounds i true).getD j false = true) ↔ listed.getD j false = true ∨ j = i := fun j => by
        by_cases hji : j = i
        · subst hji
          simp [Array.getD, his]
        · simp only [Array.getD_eq_getD_getElem?, Array.getElem?_setIfInBounds_ne (fun e => hji e.symm)]
          simp [hji]
      have hl' : (listed.setIfInBounds i true).size = all.length := by simp [hl]
      have ht' : todo all.length (listed.setIfInBounds i true) ≤ fuel := by
        have := todo_set hil hl hnot
        omega
      have hoi : ops[i]? = some o := by rw [← Array.getElem?_toList, hall]; exact ho
      obtain ⟨c', en', val', pend', mid', he', hw', hend⟩ := ahead _ listed a w γ σ c en val pend rfl mid he hw
      by_cases hic : L.idxOf i < c'
      · -- a read that the machine has behind it
        have heff : effOf M o = false := by
          cases hx : effOf M o with
          | false => rfl
          | true => exact absurd (mid'.eff i o ho hic hx) hni
        have hlate : ∀ t ∈ looks all o, late all L e0 (fun i => listed.getD i false = true) c' (en' c') t = en' (L.idxOf i) t := fun t htl => late_at h mid' ho hni hdirs (by omega) htl
        have mid2 : Mid P T M N all B L e0 (fun j => (listed.setIfInBounds i true).getD j false = true) c' en' val' σ pend' := {
          le := mid'.le
          sub := fun j hj => by
            rcases (hD j).1 hj with h1 | rfl
            · exact mid'.sub j h1
            · exact ⟨hil, hic⟩
          closed := fun j oj hj hd k hk => by
            rcases (hD j).1 hd with h1 | rfl
            · exact (hD k).2 (.inl (mid'.closed j oj hj h1 k hk))
            · rw [ho] at hj
              obtain rfl := Option.some.inj hj
              exact (hD k).2 (.inl (hdirs k hk))
          eff := fun j oj hj hlt hx => (hD j).2 (.inl (mid'.eff j oj hj hlt hx))
          writ := mid'.writ
          reads := fun j oj hj hlt hx hd => mid'.reads j oj hj hlt hx fun hdj => hd ((hD j).2 (.inl hdj))
          pend := mid'.pend
          slot := mid'.slot }
        have fine : ∀ {γ' : Gh} {w' : World} {cv : Value}, VRel γ' w' (val' i) cv → EnvRel γ' w' (late all L e0 (fun i => listed.getD i false = true) c' (en' c')) N a →
            EnvRel γ' w' (late all L e0 (fun j => (listed.setIfInBounds i true).getD j false = true) c' (en' c')) N (a.put o.dst cv) := fun hv hea =>
          late_put h hea ho hv hD hni (fun d hd => ⟨mid'.slot i o d ho hic hd, (mid'.writ c' (Nat.le_refl _) d).1 i o ho hic hd⟩) (Nat.le_refl _) (fun _ _ _ _ => Iff.rfl) fun _ _ => rfl
        unfold wpOp
        rw [hoi]
        simp only
        rcases mid'.reads i o ho hic heff hni with ⟨hg, hgv⟩ | ⟨hg, hv⟩
        · rw [gd_wanted hall he' ((gd_congr hlate).trans hg), if_pos rfl]
          refine .inl (upon_mono_step ok pe hr he' (wOp_congr (fun x hx => (ev_congr hlate x hx).symm) hgv) fun v cv σ' γ' w' h1 h2 h3 h4 h5 => ?_)
          obtain ⟨rfl, rfl⟩ := h5
          exact ih _ _ w' γ' σ' c' en' val' pend' hl' ht' mid2 (fine h1 (he'.mono h2.toEvo)) (hst.trans (hb ▸ h2)) h3 hb hw'
        · rw [gd_wanted hall he' ((gd_congr hlate).trans hg), if_neg (by simp)]
          exact ih _ _ w γ σ c' en' val' pend' hl' ht' mid2 (fine (hv ▸ .undef) he') hst hr hb hw'
      · -- the effect that stands next
        obtain ⟨k, ok', hk, hok, hkeff⟩ : ∃ k o, L[c']? = some k ∧ all[k]? = some o ∧ effOf M o = true := by
          rcases hend with hc' | hx
          · have := idx_lt h hil
            omega
          · exact hx
        have hik : i = k := by
          have hkc := idx_of_get h hk
          have nb : bitAt B i k = false := by
            cases hx : bitAt B i k with
            | false => rfl
            | true =>
              have := (mid'.sub k (ready_bits h _ mid'.closed ho hdirs hx)).2
              omega
          rcases Classical.em (i = k) with h1 | h1
          · exact h1
          · exfalso
            cases hx : effOf M o with
            | false =>
              have := h.early i k o ok' ho hok hx hkeff nb
              omega
            | true =>
              rcases h.effs i k o ok' ho hok hx hkeff h1 with h2 | h2
              · have := h.lin i k ok' hok h2
                omega
              · rw [nb] at h2; cases h2
        subst hik
        rw [ho] at hok
        obtain rfl := Option.some.inj hok
        have hkc := idx_of_get h hk
        have hlate : ∀ t ∈ looks all o, late all L e0 (fun i => listed.getD i false = true) c' (en' c') t = en' c' t := fun t htl => by
          have := late_at h mid' ho hni hdirs (by omega) htl
          rwa [hkc] at this
        have hcc : ∀ j oj, all[j]? = some oj → ¬ ((listed.setIfInBounds i true).getD j false = true) → (L.idxOf j < c' + 1 ↔ L.idxOf j < c') := fun j oj hj hd => by
          constructor
          · intro hlt
            rcases (idx_succ h hk (lt_of hj)).1 hlt with h1 | rfl
            · exact h1
            · exact absurd ((hD j).2 (.inr rfl)) hd
          · omega
        have hDe : ∀ j, ((listed.setIfInBounds i true).getD j false = true) ↔ listed.getD j false = true ∨ (j = i ∧ effOf M o = true) := fun j => by rw [hD j, hkeff]; simp
        have fine : ∀ {γ' : Gh} {w' : World} {v : AV} {cv : Value} {e' : Env}, VRel γ' w' v cv → EnvRel γ' w' (late all L e0 (fun i => listed.getD i false = true) c' (en' c')) N a →
            ((o.dst = none ∧ e' = en' c') ∨ ∃ d, o.dst = some d ∧ d < N ∧ e' = upd (en' c') d v) →
            EnvRel γ' w' (late all L e0 (fun j => (listed.setIfInBounds i true).getD j false = true) (c' + 1) e') N (a.put o.dst cv) := fun {γ' w' v cv e'} hv hea hput =>
          late_put h hea ho hv hD hni (fun d hd => by
            rcases hput with ⟨h2, _⟩ | ⟨d', h2, h3, rfl⟩
            · rw [h2] at hd; cases hd
            · rw [h2] at hd
              obtain rfl := Option.some.inj hd
              exact ⟨h3, upd_same _ _ _⟩) (Nat.le_succ _) hcc fun t hne => by
            rcases hput with ⟨_, rfl⟩ | ⟨d', h2, h3, rfl⟩
            · rfl
            · exact upd_ne _ _ fun (e : t = d') => hne (by rw [h2, e])
        rw [drop_cons hk] at hw'
        simp only [wDraw, ho] at hw'
        unfold wpOp
        rw [hoi]
        simp only
        split at hw'
        · exact hw'.elim
        · rename_i hg
          rw [gd_wanted hall he' ((gd_congr hlate).trans hg), if_neg (by simp)]
          obtain ⟨e', hk', hput⟩ := put_cases hw'
          rw [hkeff] at hk'
          have mid2 := mid_step h mid' hk ho (v := undefA) (e' := e') (pend' := pend') hput hDe (fun _ => hdirs) mid'.reads (fun hx => by rw [hkeff] at hx; cases hx) (fun x hx => hx) (fun hx => by rw [hkeff] at hx; cases hx)
          exact ih _ _ w γ σ (c' + 1) _ _ _ hl' ht' mid2 (by simp only [if_true]; exact fine .undef he' hput) hst hr hb (by simpa using hk')
        · rename_i hg
          rw [gd_wanted hall he' ((gd_congr hlate).trans hg), if_pos rfl]
          rw [hkeff] at hw'
          refine .inl (upon_mono_step ok pe hr he' (wOp_congr (fun x hx => (ev_congr hlate x hx).symm) hw') fun v cv σ' γ' w' h1 h2 h3 h4 h5 => ?_)
          obtain ⟨hstab, h5⟩ := h5
          obtain ⟨e', hk', hput⟩ := put_cases h5
          have mid2 := mid_step h mid' hk ho (σ' := σ') (v := v) (e' := e') (pend' := pend') hput hDe (fun _ => hdirs) (fun j oj hj hlt hx hd => by
              rcases mid'.reads j oj hj hlt hx hd with ⟨g1, g2⟩ | ⟨g1, g2⟩
              · refine .inl ⟨g1, stab_sound hx g2 (stab_at hstab (mid'.pend j oj hj hlt hx) hj ?_ g1)⟩
                cases hbb : bitAt B i j with
                | false => rfl
                | true => exact absurd (ready_bits h _ mid'.closed ho hdirs hbb) hd
              · exact .inr ⟨g1, g2⟩) (fun hx => by rw [hkeff] at hx; cases hx) (fun x hx => hx) (fun hx => by rw [hkeff] at hx; cases hx)
          exact ih _ _ w' γ' σ' (c' + 1) _ _ _ hl' ht' mid2 (by simp only [if_true]; exact fine h1 (he'.mono h2.toEvo) hput) (hst.trans (hb ▸ h2)) h3 (h4.trans hb) (by simpa using hk')

/-- A region that draws its order. -/
theorem A_draw (ok : TabOk P T) (pe : PeqOk P T) (mx : P.follows .mixedOrders = true) (M : Nat → Bool) {N id : Nat} {l : List Oper} (B L : List Nat) (h : Orders M l B L) {e : Env} {σ : St} {Q : Exit → Env → St → Prop}
    (hw : wDraw P T M N l B L [] e σ (Q .normal)) : ACode P T N (.region id l.toArray true) e σ Q := fun γ w a hr he => by
  refine wp_region_any mx ?_
  have f : Fresh w w.drew := Fresh.drew w
  have hr' := hr.fresh f
  have he' := he.mono (f.evo hr)
  have hst := f.step hr σ.base
  have nolist : ∀ i, ¬ ((Array.replicate l.toArray.size false).getD i false = true) := fun i => by
    simp only [Array.getD_eq_getD_getElem?, Array.getElem?_replicate]
    split <;> simp
  refine draw_any (M := M) (all := l) (B := B) (L := L) ok pe h (by simp) (K := Q .normal) (base := σ.base) (γ₀ := γ) (w₀ := w) (e0 := e) (fun e' σ' γ' w' a' h1 h2 h3 h4 h5 => ⟨e', σ', γ', h1, h2, h3, h4, h5⟩) _ _ a w.drew γ σ 0 (fun _ => e) (fun _ => undefA) []
    (by simp) (Nat.le_trans List.countP_le_length (by simp)) ?_ ?_ hst hr' rfl (by simpa using hw)
  · exact {
      le := Nat.zero_le _
      sub := fun i hi => absurd hi (nolist i)
      closed := fun j o _ hj => absurd hj (nolist j)
      eff := fun i o _ hlt => absurd hlt (Nat.not_lt_zero _)
      writ := fun m hm t => ⟨fun j o _ hlt => by omega, fun _ => rfl⟩
      reads := fun i o _ hlt => absurd hlt (Nat.not_lt_zero _)
      pend := fun i o _ hlt => absurd hlt (Nat.not_lt_zero _)
      slot := fun i o d _ hlt => absurd hlt (Nat.not_lt_zero _) }
  · refine he'.change fun t _ => ?_
    unfold late
    rw [if_neg]
    rintro ⟨i, o, _, h2, _⟩
    omega

end



end Go.Proofs.QQ
end
