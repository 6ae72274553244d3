/- A part of the proof that XlatePolicy returns true at every argument: the reader machine and this translation under it. Conditions: those that each theorem bears. -/
import Derived.Test.YtcdjeickpdlbfaaGreatDoorQ02
import Derived.Laws.CopyRow
import Derived.Laws.Slices
import Derived.Laws.AppendOwn
section
set_option linter.unusedVariables false
set_option linter.unusedSimpArgs false
namespace Go.Proofs.QQ
open Go

variable {P : Program} {T : Tab} {γ : Gh} {σ : St} {w : World} {K : AV → St → Prop}

theorem good_here (h : Rel T.glob γ σ w) {v : AV} {cv : Value} (hv : VRel γ w v cv) (hk : K v σ) : Good T γ σ.base w K cv w :=
  ⟨v, σ, γ, hv, Step.refl _ _ _, h, rfl, hk⟩

theorem add_at (b off i : Nat) : (⟨b, off, none⟩ : Addr).add i = ⟨b, off + i, none⟩ := by
  unfold Addr.add; split <;> simp_all

theorem run_und (ok : TabOk P T) {t : TypeId} {d : TypeDesc} (h : P.underlying t = some d) : (underlying t).run P w = .ok d w := run_underlying h w

theorem run_isAgg (ok : TabOk P T) {t : TypeId} (h : T.td t ≠ .other) : (isAgg t).run P w = .ok (T.td t).agg w := by
  have := ok.td t
  unfold TDok at this
  unfold isAgg
  simp only [Sem.run_bind]
  cases hd : T.td t <;> simp only [hd] at this h ⊢
  case other => exact absurd rfl h
  case st fs => obtain ⟨fields, hu, _⟩ := this; simp [run_underlying hu, Result.andThen, TD.agg]
  case fn => obtain ⟨a, b, c, hu⟩ := this; simp [run_underlying hu, Result.andThen, TD.agg]
  case ifc => obtain ⟨a, hu⟩ := this; simp [run_underlying hu, Result.andThen, TD.agg]
  all_goals simp [run_underlying this, Result.andThen, TD.agg]

theorem run_sizeOf (ok : TabOk P T) {t : TypeId} (h : T.size t ≠ 0) : (sizeOf t).run P w = .ok (T.size t) w := by
  obtain ⟨i, z, hi, hs, _⟩ := ok.size t h
  simp [sizeOf, typeInfo, hi, hs]

theorem run_zero (ok : TabOk P T) {t : TypeId} (h : T.size t ≠ 0) : ∃ z : Value, (∀ w : World, (zeroValue t).run P w = .ok z w) ∧ z.cells.toList = T.zero t ∧ z.cells.size = T.size t := by
  obtain ⟨i, z, hi, hs, _, hz, hc, hn, _⟩ := ok.size t h
  exact ⟨z, fun w => by simp [zeroValue, typeInfo, hi, hz], hc, by omega⟩

theorem zero_rel {t : TypeId} {z : Value} (hc : z.cells.toList = T.zero t) : (zeroA T t).length = z.cells.size ∧ ∀ i (h : i < (zeroA T t).length), VRel γ w (zeroA T t)[i] (z.cells.getD i undef) := by
  have hl : (T.zero t).length = z.cells.size := by rw [← hc]; simp
  refine ⟨by simp [zeroA, hl], fun i h => ?_⟩
  have hi : i < z.cells.size := by simpa [zeroA, hl] using h
  simp only [zeroA, List.getElem_map, ← hc, Array.getElem_toList, Array.getD, hi, dif_pos]
  exact VRel.ofS _

/-- A variable's value out of cells that stand one behind the other. -/
theorem val_load (ok : TabOk P T) {t : TypeId} {cells : List AV} {b off : Nat} {f : Nat → Value} {Kv : AV → Prop}
    (hc : ∀ i, i < cells.length → w.cell? ⟨b, off + i, none⟩ = some (f i)) (hr : ∀ i (h : i < cells.length), VRel γ w cells[i] (f i)) (h : valA T t cells Kv) :
    ∃ v cv, Kv v ∧ VRel γ w v cv ∧ (loadVar t ⟨b, off, none⟩).run P w = .ok cv w := by
  unfold valA at h
  have scal : T.td t ≠ .other → (T.td t).agg = false → (∃ v rest, cells = v :: rest ∧ Kv v) → ∃ v cv, Kv v ∧ VRel γ w v cv ∧ (loadVar t ⟨b, off, none⟩).run P w = .ok cv w := by
    clear h
    rintro h1 h2 ⟨v, rest, rfl, hk⟩
    · refine ⟨v, f 0, hk, hr 0 (by simp), ?_⟩
      have := hc 0 (by simp)
      rw [Nat.add_zero] at this
      simp [loadVar, run_isAgg ok h1, h2, Result.andThen, this]
  have aggr : T.td t ≠ .other → (T.td t).agg = true → (T.size t ≠ 0 ∧ T.size t ≤ cells.length ∧ Kv (.agg (cells.take (T.size t)))) → ∃ v cv, Kv v ∧ VRel γ w v cv ∧ (loadVar t ⟨b, off, none⟩).run P w = .ok cv w := by
    intro h1 h2 ⟨hs, hl, h⟩
    refine ⟨_, .agg ((List.range (T.size t)).map f).toArray, h, .agg _ _ (by simp; omega) fun i hi => ?_, ?_⟩
    · have hi' : i < T.size t := by simp at hi; omega
      have : i < ((List.range (T.size t)).map f).toArray.size := by simp; exact hi'
      simp only [Array.getD, this, dif_pos, List.getElem_take]
      simpa using hr i (by omega)
    · have := run_loadCells (P := P) w ⟨b, off, none⟩ (T.size t) f (fun j hj => by rw [add_at]; exact hc j (by omega))
      simp [loadVar, run_isAgg ok h1, h2, Result.andThen, run_sizeOf ok hs, this]
  cases hd : T.td t <;> simp only [hd] at h
  case arr => exact aggr (by simp [hd]) (by simp [hd, TD.agg]) h
  case st => exact aggr (by simp [hd]) (by simp [hd, TD.agg]) h
  all_goals exact scal (by simp [hd]) (by simp [hd, TD.agg]) (by cases cells with | nil => exact h.elim | cons v r => exact ⟨v, r, rfl, h⟩)

theorem Rel.cells (h : Rel T.glob γ σ w) {o : Nat} {cells : List AV} {g wm : Nat} (ho : o < σ.n) (hx : σ.at_ o = .row cells g wm) :
    γ.gen o = g ∧ ∃ f : Nat → Value, (∀ i, i < cells.length → w.cell? ⟨γ.blk o, i, none⟩ = some (f i)) ∧ ∀ i (h : i < cells.length), VRel γ w cells[i] (f i) := by
  obtain ⟨⟨hg, _⟩, c, el, fr, hh, hs, hl, hv, _⟩ := h.row (h.n ▸ ho) hx
  refine ⟨hg.symm, fun i => c.getD i undef, fun i hi => ?_, hv⟩
  have : i < c.size := by omega
  simp [World.cell?, hh, Array.getD, this]

theorem load_sound (ok : TabOk P T) (h : Rel T.glob γ σ w) {t : TypeId} {x : AV} {cx : Value} (hx : VRel γ w x cx) (hw : wLoad T t x σ K) :
    ∃ cv, (Instr.loadAt t cx).run P w = .ok cv w ∧ Good T γ σ.base w K cv w := by
  cases hx <;> simp only [wLoad] at hw
  case ip cells b off f hp hq hr =>
    obtain ⟨v, cv, hk, hv, hrun⟩ := val_load (P := P) ok (fun i hi => (hp i hi).2) hr hw
    exact ⟨cv, by simp [Instr.loadAt, Instr.sureAddr, hrun, Result.andThen], good_here h hv hk⟩
  case ptr o g off a ho hg ha =>
    obtain ⟨cells, wm, hlt, hrow, hval⟩ := hw
    obtain ⟨hge, f, hc, hr⟩ := h.cells hlt hrow
    obtain rfl := ha hge.symm
    obtain ⟨v, cv, hk, hv, hrun⟩ := val_load (P := P) (cells := cells.drop off) (b := γ.blk o) (off := off) (f := fun i => f (off + i)) ok (fun i hi => hc _ (by simp at hi; omega))
      (fun i hi => by simp only [List.getElem_drop]; exact hr _ (by simp at hi; omega)) hval
    exact ⟨cv, by simp [Instr.loadAt, Instr.sureAddr, hrun, Result.andThen], good_here h hv hk⟩

/-- A value's cells and their abstract twins. -/
theorem cells_rel {v : AV} {cv : Value} {cells : List AV} (h : VRel γ w v cv) (hc : cellsA v = some cells) :
    cv.cells.size = cells.length ∧ ∀ i (h : i < cells.length), VRel γ w cells[i] (cv.cells.getD i undef) := by
  have one : ∀ {v : AV} {cv : Value}, VRel γ w v cv → cv.cells = #[cv] → some [v] = some cells → cv.cells.size = cells.length ∧ ∀ i (h : i < cells.length), VRel γ w cells[i] (cv.cells.getD i undef) := by
    intro v cv hv hcv he
    injection he with he
    subst he
    rw [hcv]
    refine ⟨rfl, fun i hi => ?_⟩
    have : i = 0 := by simpa using hi
    subst this
    simpa using hv
  cases h
  case agg cs arr hl hr =>
    injection hc with hc
    subst hc
    exact ⟨hl, hr⟩
  case tup => simp [cellsA] at hc
  case bad => simp [cellsA] at hc
  all_goals exact one (by constructor <;> assumption) rfl hc

theorem oneCell_of {v : AV} {cv : Value} (h : VRel γ w v cv) (ho : oneA v = true) : cv.oneCell' = true := by
  cases h <;> first | rfl | (simp [oneA] at ho)

theorem put_length {cells vs : List AV} {off : Nat} (h : off + vs.length ≤ cells.length) : (put cells off vs).length = cells.length := by
  simp [put]; omega

theorem put_get {cells vs : List AV} {off i : Nat} (h : off + vs.length ≤ cells.length) (hi : i < (put cells off vs).length) (hi2 : i < cells.length) :
    (put cells off vs)[i] = if h1 : off ≤ i ∧ i < off + vs.length then vs[i - off]'(by omega) else cells[i] := by
  have hi' : i < (cells.take off ++ vs ++ cells.drop (off + vs.length)).length := hi
  show (cells.take off ++ vs ++ cells.drop (off + vs.length))[i]'hi' = _
  clear hi
  by_cases h1 : i < off
  · rw [List.getElem_append_left (by simp; omega), List.getElem_append_left (by simp; omega), List.getElem_take, dif_neg (by omega)]
  · by_cases h2 : i < off + vs.length
    · rw [List.getElem_append_left (by simp; omega), List.getElem_append_right (by simp; omega), dif_pos ⟨by omega, h2⟩]
      congr 1
      simp; omega
    · rw [List.getElem_append_right (by simp; omega), List.getElem_drop, dif_neg (by omega)]
      congr 1
      simp; omega


theorem Wrote.refl (b : Nat) (w : World) : Wrote b w w := ⟨rfl, rfl, rfl, rfl, fun _ _ => rfl⟩
theorem Wrote.trans {b : Nat} {w w₁ w₂ : World} (h : Wrote b w w₁) (k : Wrote b w₁ w₂) : Wrote b w w₂ :=
  ⟨k.os.trans h.os, k.tape.trans h.tape, k.output.trans h.output, k.size.trans h.size, fun i hi => (k.other i hi).trans (h.other i hi)⟩

/-- Cells stored into a row. -/
theorem run_stores (b : Nat) (el : TypeId) (fr : Nat × Nat) : ∀ (vs : List Value) (off i : Nat) (c : Array Value) (w : World), w.heap[b]? = some (.cells c el fr) → off + i + vs.length ≤ c.size →
    (∀ j, off + i ≤ j → j < c.size → w.frozen? ⟨b, j, none⟩ = false) → (∀ v ∈ vs, v.oneCell' = true) →
    ∃ w' c', (storeCells ⟨b, off, none⟩ vs i).run P w = .ok () w' ∧ Wrote b w w' ∧ w'.heap[b]? = some (.cells c' el fr) ∧ c'.size = c.size ∧
      ∀ j, c'[j]? = if off + i ≤ j ∧ j < off + i + vs.length then vs[j - (off + i)]? else c[j]?
  | [], off, i, c, w, hh, hl, hf, ho => ⟨w, c, rfl, .refl _ _, hh, rfl, fun j => by rw [if_neg (by simp)]⟩
  | v :: r, off, i, c, w, hh, hl, hf, ho => by
    have hlt : off + i < c.size := by simp at hl; omega
    have hcell : w.cell? ⟨b, off + i, none⟩ = some c[off + i] := by simp [World.cell?, hh, hlt]
    have hst : (store ((⟨b, off, none⟩ : Addr).add i) v).run P w = .ok () (w.setCell ⟨b, off + i, none⟩ v) := by
      rw [add_at, run_store P w _ v _ (ho v (by simp)), hcell]
      simp [hf _ (Nat.le_refl _) hlt]
    have hh1 : (w.setCell ⟨b, off + i, none⟩ v).heap[b]? = some (.cells (c.setIfInBounds (off + i) v) el fr) := by
      simp [World.setCell, Array.getElem?_modify, hh]
    have hw1 : Wrote b w (w.setCell ⟨b, off + i, none⟩ v) := ⟨rfl, rfl, rfl, by simp, fun b' hb' => by
      simp only [World.setCell, Array.getElem?_modify]
      rw [if_neg (fun e => hb' e.symm)]⟩
    obtain ⟨w', c', hrun, hw, hh2, hs, hc⟩ := run_stores b el fr r off (i + 1) (c.setIfInBounds (off + i) v) (w.setCell ⟨b, off + i, none⟩ v) hh1 (by simp at hl ⊢; omega)
      (fun j hm hj => by rw [World.frozen?_setCell]; exact hf j (by omega) (by simpa using hj)) (fun x hx => ho x (by simp [hx]))
    refine ⟨w', c', by simp only [storeCells, Sem.run_bind, hst, Result.andThen_ok, hrun], hw1.trans hw, hh2, by simpa using hs, fun j => ?_⟩
    rw [hc j]
    by_cases h1 : off + (i + 1) ≤ j ∧ j < off + (i + 1) + r.length
    · rw [if_pos h1, if_pos (by simp; omega)]
      obtain ⟨k, hk⟩ : ∃ k, j - (off + i) = k + 1 := ⟨j - (off + i) - 1, by omega⟩
      rw [hk, List.getElem?_cons_succ]
      congr 1; omega
    · rw [if_neg h1]
      by_cases h2 : j = off + i
      · subst h2
        rw [if_pos (by simp)]
        simp [hlt]
      · rw [if_neg (by simp; omega), Array.getElem?_setIfInBounds_ne (fun e => h2 e.symm)]

theorem store_sound (ok : TabOk P T) (h : Rel T.glob γ σ w) {t : TypeId} {x v : AV} {cx cv : Value} (hx : VRel γ w x cx) (hv : VRel γ w v cv) (hw : wStore T t x v σ K) :
    ∃ w', (Instr.storeAt t cx cv).run P w = .ok () w' ∧ Good T γ σ.base w K undef w' := by
  unfold wStore at hw
  split at hw
  case h_2 => exact hw.elim
  rename_i o g off vs hcs
  obtain ⟨cells, wm, ho, hb, hrow, hsz, hnz, hone, hwm, hlen, hk⟩ := hw
  cases hx
  rename_i a ho' hg ha
  obtain ⟨hcl, hcr⟩ := cells_rel hv hcs
  obtain ⟨⟨hge, hnf⟩, c, el, fr, hh, hs, hl, hvr, hf, hp⟩ := h.row (h.n ▸ ho) hrow
  obtain rfl := ha hge
  have hall : ∀ u ∈ cv.cells.toList, u.oneCell' = true := by
    intro u hu
    obtain ⟨i, hi, rfl⟩ := List.getElem_of_mem hu
    have hi' : i < vs.length := by simp at hi; omega
    have hr := hcr i hi'
    have hi2 : i < cv.cells.size := by omega
    simp only [Array.getD, hi2, dif_pos] at hr
    exact oneCell_of hr (by simpa using List.all_eq_true.1 hone _ (List.getElem_mem hi'))
  obtain ⟨w', c', hrun, hwr, hh', hs', hc'⟩ := run_stores (P := P) (γ.blk o) el fr cv.cells.toList off 0 c w hh (by simp [hcl]; omega) (fun j hm => hf j (by omega)) hall
  have hgetc : ∀ i, i < c.size → c'.getD i undef = if off ≤ i ∧ i < off + vs.length then cv.cells.getD (i - off) undef else c.getD i undef := by
    intro i hi
    have := hc' i
    simp only [Nat.add_zero, Array.length_toList, hcl, Array.getElem?_toList] at this
    simp only [Array.getD_eq_getD_getElem?, this]
    split <;> rfl
  obtain ⟨hst, hrel⟩ := write_row' h σ.base wm (Nat.le_refl _) (h.n ▸ ho) hb hrow hh hwr hh' hs' (fun i hi => by
      rw [hc' i, if_neg (by omega)]) (FrOk.same hs') (fun i hm hi => by
      have h1 := hf i hm (by omega)
      simp only [World.frozen?, hh, hh'] at h1 ⊢
      exact h1) (put cells off vs) (by rw [put_length hlen]; omega) (fun i hi => by
      have hi2 : i < cells.length := by rw [put_length hlen] at hi; exact hi
      rw [put_get hlen hi hi2, hgetc i (by omega)]
      by_cases h1 : off ≤ i ∧ i < off + vs.length
      · rw [dif_pos h1, if_pos h1]; exact hcr _ _
      · rw [dif_neg h1, if_neg h1]; exact hvr _ _)
  refine ⟨w', ?_, undefA, _, γ, .undef, hst, hrel, rfl, hk⟩
  simp only [Instr.storeAt, Instr.sureAddr, Sem.run_bind, Sem.run_pure, Result.andThen, storeVar, run_sizeOf ok hnz]
  rw [hsz, hcl]
  simpa using hrun

theorem nil_sound {x : AV} {cx : Value} (hx : VRel γ w x cx) (hw : wNil x σ K) :
    (execOp (fun _ => cx) ⟨none, .nilCheck (.tmp 0), 0, "", #[], none⟩).run P w = .ok (.value cx) w ∧ K x σ := by
  cases hx <;> simp only [wNil] at hw
  case fn f first captured c1 c2 h1 h2 r1 r2 =>
    cases f <;> simp only at hw
    exact ⟨rfl, hw⟩
  case ptr => exact ⟨rfl, hw⟩
  case ip => exact ⟨rfl, hw⟩

/-- A slice out of a new row: protected, or an object's. -/
theorem new_sound {w' : World} (h : Rel T.glob γ σ w) {mt full : Bool} {len esz : Nat} {cells : List AV} {cs : Array Value} (f : Fresh w w') (el : TypeId) (fr : Nat × Nat) (hh : w'.heap[w.heap.size]? = some (.cells cs el fr)) (t : Option TypeId) (ht : ∀ u, t = some u → u = el ∧ FrOk cs fr)
    (hfr : ∀ i, i < cs.size → w'.frozen? ⟨w.heap.size, i, none⟩ = false) (cap : Nat) (hl : cells.length ≤ cs.size) (hr : ∀ i (h : i < cells.length), VRel γ w cells[i] (cs.getD i undef))
    (hc : len ≤ cap) (hf : full = true → cap = len) (hroom : cap * esz ≤ cs.size) (hw : wRow mt full t len esz cells σ K) :
    Good T γ σ.base w K (.slice (some ⟨w.heap.size, 0, none⟩) len cap) w' := by
  unfold wRow at hw
  cases mt with
  | true =>
    obtain ⟨hst, hrel⟩ := new_row h t σ.base (h.n ▸ h.base) f cs el fr hh ht hfr cells hl hr
    refine ⟨_, _, _, .ms σ.n 0 0 len esz _ cap (by simp [Gh.push, h.n]) (Nat.zero_le _) hc fun _ => ?_, hst, hrel, rfl, hw⟩
    simp [Gh.push, h.n]; exact hroom
  | false =>
    simp only at hw
    split at hw
    case h_2 => exact hw.elim
    rename_i hall
    obtain ⟨hst, hrel⟩ := new_imm h σ.base f cs el fr hh cs.size (Nat.le_refl _)
    exact ⟨_, σ, _, new_sl hh hl (Nat.le_refl _) hr (fun i hi => List.all_eq_true.1 hall _ (List.getElem_mem hi)) hc hf hst.toEvo, hst, hrel, rfl, hw⟩

theorem row_sound (h : Rel T.glob γ σ w) {mt full : Bool} {len esz : Nat} {cells : List AV} {cs : Array Value} (el : TypeId) (cap : Nat) (hl : cs.size = cells.length) (hr : ∀ i (h : i < cells.length), VRel γ w cells[i] (cs.getD i undef))
    (hc : len ≤ cap) (hf : full = true → cap = len) (hroom : cap * esz ≤ cs.size) (hw : wRow mt full (some el) len esz cells σ K) :
    Good T γ σ.base w K (.slice (some ⟨w.heap.size, 0, none⟩) len cap) (w.alloc (.cells cs el)) :=
  new_sound h (Fresh.alloc _ _) el (0, 0) (alloc_at _ _ _ _) (some el) (fun u hu => ⟨(Option.some.inj hu).symm, .inl rfl⟩) (fun i _ => World.frozen?_alloc_new w cs el i) cap (by omega) hr hc hf hroom hw

theorem alloc_sound (ok : TabOk P T) (h : Rel T.glob γ σ w) {t : TypeId} (hw : T.size t ≠ 0 ∧ K (.ptr σ.n 0 0) (σ.push (.row (zeroA T t) 0 0) (some t))) :
    ∃ cv w', (Instr.alloc t true (.tuple #[])).run P w = .ok cv w' ∧ Good T γ σ.base w K cv w' := by
  obtain ⟨z, hz, hzc, hzs⟩ := run_zero (P := P) ok hw.1
  obtain ⟨hzl, hzr⟩ := zero_rel (γ := γ) (w := w) hzc
  obtain ⟨hst, hrel⟩ := alloc_row h σ.base (h.n ▸ h.base) z.cells t (zeroA T t) (by omega) hzr
  refine ⟨_, _, ?_, _, _, _, .ptr σ.n 0 0 ⟨w.heap.size, 0, none⟩ (by simp [Gh.push, h.n]) (Nat.zero_le _) fun _ => ?_, hst, hrel, rfl, hw.2⟩
  · simp [Instr.alloc, hz, newVar, newRow, Result.andThen]
  · simp [Gh.push, h.n]

theorem box_sound (h : Rel T.glob γ σ w) {mt : Bool} {t : TypeId} {x : AV} {cx : Value} {cells : List AV} (hx : VRel γ w x cx) (hc : cellsA x = some cells)
    (hw : match mt with | true => K (.ptr σ.n 0 0) (σ.push (.row cells 0 0) (some t)) | false => match cells.all pureS with | true => K (.ip cells) σ | false => False) :
    ∃ cv w', (Instr.box t cx).run P w = .ok cv w' ∧ Good T γ σ.base w K cv w' := by
  obtain ⟨hl, hr⟩ := cells_rel hx hc
  refine ⟨.pointer (some ⟨w.heap.size, 0, none⟩), w.alloc (.cells cx.cells t), by simp [Instr.box, newVar, newRow, Result.andThen], ?_⟩
  cases mt with
  | true =>
    obtain ⟨hst, hrel⟩ := alloc_row h σ.base (h.n ▸ h.base) cx.cells t cells (by omega) hr
    refine ⟨_, _, _, .ptr σ.n 0 0 ⟨w.heap.size, 0, none⟩ (by simp [Gh.push, h.n]) (Nat.zero_le _) fun _ => ?_, hst, hrel, rfl, hw⟩
    simp [Gh.push, h.n]
  | false =>
    simp only at hw
    split at hw
    case h_2 => exact hw.elim
    rename_i hall
    obtain ⟨hst, hrel⟩ := alloc_imm h σ.base cx.cells t _ rfl cx.cells.size (Nat.le_refl _)
    exact ⟨_, σ, _, imm_ip h hl hr (fun i hi => List.all_eq_true.1 hall _ (List.getElem_mem hi)) hst.toEvo, hst, hrel, rfl, hw⟩

/-- The model's filling of a literal's cells and its twin. -/
theorem fill_rel {place : Nat → Option (Nat × Nat)} : ∀ (parts : List (Nat × AV)) (cparts : List (Nat × Value)) (cells : List AV) (cs : Array Value) (r : List AV),
    cs.size = cells.length → (∀ i (h : i < cells.length), VRel γ w cells[i] (cs.getD i undef)) → cparts.length = parts.length →
    (∀ i (h : i < parts.length) (h' : i < cparts.length), parts[i].1 = cparts[i].1 ∧ VRel γ w parts[i].2 cparts[i].2) →
    fillA place cells parts = some r → ∃ rs, Instr.fill place cs cparts = some rs ∧ rs.size = r.length ∧ ∀ i (h : i < r.length), VRel γ w r[i] (rs.getD i undef)
  | [], [], cells, cs, r, hl, hr, _, _, hf => by
    simp only [fillA, Option.some.injEq] at hf
    subst hf
    exact ⟨cs, rfl, hl, hr⟩
  | [], _ :: _, _, _, _, _, _, hn, _, _ => by simp at hn
  | _ :: _, [], _, _, _, _, _, hn, _, _ => by simp at hn
  | (i, v) :: rest, (j, cv) :: crest, cells, cs, r, hl, hr, hn, hp, hf => by
    have h0 := hp 0 (by simp) (by simp)
    simp only [List.getElem_cons_zero] at h0
    obtain ⟨rfl, hv⟩ := h0
    simp only [fillA] at hf
    split at hf
    case h_2 => cases hf
    rename_i off size vs hpl hcv
    split at hf
    case isFalse => cases hf
    rename_i hcond
    obtain ⟨rfl, hfit⟩ := hcond
    obtain ⟨hcl, hcr⟩ := cells_rel hv hcv
    have hfold : ∀ (l : List Value) (k : Nat) (cs : Array Value), (l.zipIdx k).foldl (fun (cs : Array Value) (p : Value × Nat) => cs.setIfInBounds (off + p.2) p.1) cs = (l.zipIdx k).foldl (fun cs p => cs.setIfInBounds (off + p.2) p.1) cs := fun _ _ _ => rfl
    have key : ∀ (l : List Value) (k : Nat) (cs : Array Value), ((l.zipIdx k).foldl (fun (cs : Array Value) (p : Value × Nat) => cs.setIfInBounds (off + p.2) p.1) cs).size = cs.size ∧
        ∀ j, j < cs.size → ((l.zipIdx k).foldl (fun (cs : Array Value) (p : Value × Nat) => cs.setIfInBounds (off + p.2) p.1) cs).getD j undef = if off + k ≤ j ∧ j < off + k + l.length then l.getD (j - (off + k)) undef else cs.getD j undef := by
      intro l
      induction l with
      | nil => intro k cs; exact ⟨rfl, fun j _ => by rw [if_neg (by simp)]; rfl⟩
      | cons u l ih =>
        intro k cs
        simp only [List.zipIdx_cons, List.foldl_cons]
        obtain ⟨h1, h2⟩ := ih (k + 1) (cs.setIfInBounds (off + k) u)
        refine ⟨by rw [h1]; simp, fun j hj => ?_⟩
        rw [h2 j (by simpa using hj)]
        by_cases c1 : off + (k + 1) ≤ j ∧ j < off + (k + 1) + l.length
        · rw [if_pos c1, if_pos (by simp; omega)]
          obtain ⟨m, hm⟩ : ∃ m, j - (off + k) = m + 1 := ⟨j - (off + k) - 1, by omega⟩
          rw [hm, List.getD_cons_succ]
          congr 1; omega
        · rw [if_neg c1]
          by_cases c2 : j = off + k
          · subst c2
            rw [if_pos (by simp)]
            simp [Array.getD, hj]
          · rw [if_neg (by simp; omega)]
            simp only [Array.getD_eq_getD_getElem?, Array.getElem?_setIfInBounds_ne (fun e => c2 e.symm)]
    have hz : cv.cells.zipIdx.foldl (fun cs (x : Value × Nat) => match x with | (c, j) => cs.setIfInBounds (off + j) c) cs = ((cv.cells.toList.zipIdx 0).foldl (fun (cs : Array Value) (p : Value × Nat) => cs.setIfInBounds (off + p.2) p.1) cs) := by
      rw [← Array.foldl_toList]
      simp
    obtain ⟨k1, k2⟩ := key cv.cells.toList 0 cs
    obtain ⟨rs, hrs, hrl, hrr⟩ := fill_rel rest crest (put cells off vs) _ r (by rw [k1, put_length hfit]; exact hl) (fun i hi => by
        have hi2 : i < cells.length := by rw [put_length hfit] at hi; exact hi
        rw [put_get hfit hi hi2, k2 i (by omega)]
        simp only [Nat.add_zero, Array.length_toList, hcl]
        by_cases h1 : off ≤ i ∧ i < off + vs.length
        · rw [dif_pos h1, if_pos h1]
          have := hcr (i - off) (by omega)
          simpa [Array.getD_eq_getD_getElem?, List.getD_eq_getElem?_getD] using this
        · rw [dif_neg h1, if_neg h1]; exact hr _ _) (by simpa using hn) (fun i h1 h2 => hp (i + 1) (Nat.succ_lt_succ h1) (Nat.succ_lt_succ h2)) hf
    refine ⟨rs, ?_, hrl, hrr⟩
    simp only [Instr.fill, hpl]
    rw [if_neg (by simp [hcl]; omega)]
    rw [hz]
    exact hrs


theorem parts_rel {e : Env} {N : Nat} {a : Act} (h : Rel T.glob γ σ w) (he : EnvRel γ w e N a) (parts : Array (Nat × Operand)) :
    (parts.map fun (p : Nat × Operand) => (p.1, a.eval p.2)).toList.length = (parts.toList.map fun p => (p.1, ev T e N p.2)).length ∧
    ∀ i (h : i < (parts.toList.map fun p => (p.1, ev T e N p.2)).length) (h' : i < (parts.map fun (p : Nat × Operand) => (p.1, a.eval p.2)).toList.length),
      (parts.toList.map fun p => (p.1, ev T e N p.2))[i].1 = (parts.map fun (p : Nat × Operand) => (p.1, a.eval p.2)).toList[i].1 ∧
      VRel γ w (parts.toList.map fun p => (p.1, ev T e N p.2))[i].2 (parts.map fun (p : Nat × Operand) => (p.1, a.eval p.2)).toList[i].2 := by
  refine ⟨by simp, fun i h1 h2 => ?_⟩
  simp only [List.getElem_map, Array.toList_map, Array.getElem_toList]
  exact ⟨trivial, ev_rel h he _⟩

theorem fields_at {fields : Array Field} {fs : List (Nat × TypeId)} (h : fields.toList.map (fun f => (f.offset, f.type)) = fs) (i : Nat) :
    fs[i]? = (fields[i]?).map fun f => (f.offset, f.type) := by
  rw [← h, List.getElem?_map, Array.getElem?_toList]

theorem mapM_places (ok : TabOk P T) {fields : List Field} (h : ∀ f ∈ fields, T.size f.type ≠ 0) (w : World) :
    (fields.mapM (fun f => do pure (f.offset, ← sizeOf f.type)) : Sem (List (Nat × Nat))).run P w = .ok (fields.map fun f => (f.offset, T.size f.type)) w := by
  induction fields with
  | nil => rfl
  | cons f r ih =>
    simp only [List.mapM_cons, Sem.run_bind, run_sizeOf ok (h f (by simp)), Result.andThen_ok, Sem.run_pure, ih fun g hg => h g (by simp [hg]), List.map_cons]

theorem build_sound (ok : TabOk P T) (h : Rel T.glob γ σ w) {e : Env} {N : Nat} {a : Act} (he : EnvRel γ w e N a) {t : TypeId} {parts : Array (Nat × Operand)}
    (hw : wBuild T t (parts.toList.map fun p => (p.1, ev T e N p.2)) σ K) :
    ∃ cv, (Instr.build t (parts.map fun (p : Nat × Operand) => (p.1, a.eval p.2))).run P w = .ok cv w ∧ Good T γ σ.base w K cv w := by
  obtain ⟨hnz, hw⟩ := hw
  obtain ⟨z, hz, hzc, hzs⟩ := run_zero (P := P) ok hnz
  obtain ⟨hzl, hzr⟩ := zero_rel (γ := γ) (w := w) hzc
  obtain ⟨hpl, hpr⟩ := parts_rel h he parts
  have htd := ok.td t
  split at hw
  case h_3 => exact hw.elim
  case h_1 fs hd =>
    simp only [hd, TDok] at htd
    obtain ⟨fields, hu, hfs⟩ := htd
    split at hw
    case h_2 => exact hw.elim
    rename_i cells hfill
    obtain ⟨hall, hk⟩ := hw
    have hne : ∀ f ∈ fields.toList, T.size f.type ≠ 0 := fun f hf => by
      have := List.all_eq_true.1 hall (f.offset, f.type) (by rw [← hfs]; exact List.mem_map.2 ⟨f, hf, rfl⟩)
      simpa using this
    have hplace : (fun (i : Nat) => (fs[i]?).map fun (p : Nat × TypeId) => (p.1, T.size p.2)) = (fun (i : Nat) => ((fields.toList.map fun f => (f.offset, T.size f.type)).toArray)[i]?) := by
      funext i
      rw [fields_at hfs]
      cases hfi : fields[i]? <;> simp [hfi]
    replace hfill : fillA (fun (i : Nat) => (fs[i]?).map fun (p : Nat × TypeId) => (p.1, T.size p.2)) (zeroA T t) (parts.toList.map fun p => (p.1, ev T e N p.2)) = some cells := hfill
    rw [hplace] at hfill
    obtain ⟨rs, hrs, hrl, hrr⟩ := fill_rel _ (parts.map fun (p : Nat × Operand) => (p.1, a.eval p.2)).toList _ z.cells _ hzl.symm hzr hpl hpr hfill
    refine ⟨.agg rs, ?_, good_here h (.agg _ _ hrl hrr) hk⟩
    have hm := mapM_places ok hne w
    simp only [Instr.build, Sem.run_bind, hz, Result.andThen_ok, run_underlying hu, Sem.run_pure, Array.mapM_eq_mapM_toList, Sem.run_map, hm, hrs]
  case h_2 n el hd =>
    simp only [hd, TDok] at htd
    split at hw
    case h_2 => exact hw.elim
    rename_i cells hfill
    obtain ⟨hne, hk⟩ := hw
    obtain ⟨rs, hrs, hrl, hrr⟩ := fill_rel _ (parts.map fun (p : Nat × Operand) => (p.1, a.eval p.2)).toList _ z.cells _ hzl.symm hzr hpl hpr hfill
    refine ⟨.agg rs, ?_, good_here h (.agg _ _ hrl hrr) hk⟩
    simp only [Instr.build, Sem.run_bind, hz, Result.andThen_ok, run_underlying htd, Sem.run_pure, run_sizeOf ok hne, hrs]

end Go.Proofs.QQ
end
