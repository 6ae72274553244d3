/- A part of the proof that XlatePolicy returns true at every argument: the reader machine and this translation under it. Conditions: those that each theorem bears. -/
import Derived.Test.YtcdjeickpdlbfaaGreatDoorQ03
import Derived.Laws.Concat
import Derived.Laws.BytesString
import Derived.Laws.BytesArg
import Derived.Laws.Strings
import Derived.Laws.Small
section
set_option linter.unusedVariables false
set_option linter.unusedSimpArgs false
namespace Go.Proofs.QQ
open Go

variable {P : Program} {T : Tab} {γ : Gh} {σ : St} {w : World} {K : AV → St → Prop}

theorem repA_length (z : List AV) (n : Nat) : (repA z n).length = n * z.length := by
  induction n with
  | zero => simp [repA]
  | succ n ih => simp [repA, ih, Nat.succ_mul]; omega
theorem repA_get (z : List AV) : ∀ (n i : Nat) (h : i < (repA z n).length) (h2 : i % z.length < z.length), (repA z n)[i] = z[i % z.length]
  | 0, i, h, _ => by simp [repA] at h
  | n + 1, i, h, h2 => by
    have hr : repA z (n + 1) = z ++ repA z n := rfl
    by_cases h1 : i < z.length
    · simp only [hr, List.getElem_append_left h1, Nat.mod_eq_of_lt h1]
    · have h3 : i - z.length < (repA z n).length := by rw [hr, List.length_append] at h; omega
      have h4 : (i - z.length) % z.length = i % z.length := (Nat.mod_eq_sub_mod (by omega)).symm
      simp only [hr, List.getElem_append_right (Nat.le_of_not_lt h1)]
      rw [repA_get z n (i - z.length) h3 (by rw [h4]; exact h2)]
      simp only [h4]

theorem reps_rel {z : Value} {t : TypeId} (hzl : (zeroA T t).length = z.cells.size) (hzr : ∀ i (h : i < (zeroA T t).length), VRel γ w (zeroA T t)[i] (z.cells.getD i undef)) (n : Nat) (m : Nat) (hm : m = n * z.cells.size) :
    ((Array.range m).map (z.cells[· % z.cells.size]!)).size = (repA (zeroA T t) n).length ∧
    ∀ i (h : i < (repA (zeroA T t) n).length), VRel γ w (repA (zeroA T t) n)[i] (((Array.range m).map (z.cells[· % z.cells.size]!)).getD i undef) := by
  refine ⟨by simp [repA_length, hzl, hm], fun i h => ?_⟩
  have hl : i < n * z.cells.size := by rw [repA_length, hzl] at h; exact h
  have hp : 0 < z.cells.size := by
    rcases Nat.eq_zero_or_pos z.cells.size with h0 | h0
    · simp [h0] at hl
    · exact h0
  have hmod := Nat.mod_lt i hp
  rw [repA_get _ n i h (by rw [hzl]; exact hmod)]
  have := hzr (i % (zeroA T t).length) (by rw [hzl]; exact hmod)
  rw [show ((Array.range m).map (z.cells[· % z.cells.size]!)).getD i undef = z.cells.getD (i % (zeroA T t).length) undef from ?_]
  · exact this
  · have h1 : i < ((Array.range m).map (z.cells[· % z.cells.size]!)).size := by simp [hm]; exact hl
    simp only [Array.getD, h1, dif_pos, hzl, hmod]
    simp [hmod]

theorem buildSlice_sound (ok : TabOk P T) (h : Rel T.glob γ σ w) {e : Env} {N : Nat} {a : Act} (he : EnvRel γ w e N a) {mt : Bool} {t : TypeId} {n : Nat} {parts : Array (Nat × Operand)}
    (hw : wBuildSlice T mt t n (parts.toList.map fun p => (p.1, ev T e N p.2)) σ K) :
    ∃ cv w', (Instr.buildSlice t n (parts.map fun (p : Nat × Operand) => (p.1, a.eval p.2))).run P w = .ok cv w' ∧ Good T γ σ.base w K cv w' := by
  unfold wBuildSlice at hw
  have htd := ok.td t
  split at hw
  case h_2 => exact hw.elim
  rename_i el hd
  simp only [hd, TDok] at htd
  obtain ⟨hne, hsm, hw⟩ := hw
  split at hw
  case h_2 => exact hw.elim
  rename_i cells hfill
  obtain ⟨z, hz, hzc, hzs⟩ := run_zero (P := P) ok hne
  obtain ⟨hzl, hzr⟩ := zero_rel (γ := γ) (w := w) hzc
  obtain ⟨hpl, hpr⟩ := parts_rel h he parts
  have zz : ∀ zero : Array Value, (n * T.size el = 0 ∧ zero = #[] ∨ n * T.size el ≠ 0 ∧ zero = z.cells) →
      ((Array.range (n * T.size el)).map (zero[· % zero.size]!)).size = (repA (zeroA T el) n).length ∧ ∀ i (h : i < (repA (zeroA T el) n).length), VRel γ w (repA (zeroA T el) n)[i] (((Array.range (n * T.size el)).map (zero[· % zero.size]!)).getD i undef) := by
    rintro zero (⟨h0, rfl⟩ | ⟨_, rfl⟩)
    · have hn : (repA (zeroA T el) n).length = 0 := by rw [repA_length, hzl, hzs]; exact h0
      exact ⟨by simp [h0, hn], fun i hi => by omega⟩
    · exact reps_rel hzl hzr n _ (by rw [hzs])
  have fin : ∀ zero : Array Value, (n * T.size el = 0 ∧ zero = #[] ∨ n * T.size el ≠ 0 ∧ zero = z.cells) →
      ∃ rs, Instr.fill (fun i => some (i * T.size el, T.size el)) ((Array.range (n * T.size el)).map (zero[· % zero.size]!)) (parts.map fun (p : Nat × Operand) => (p.1, a.eval p.2)).toList = some rs ∧
        Good T γ σ.base w K (.slice (some ⟨w.heap.size, 0, none⟩) n n) (w.alloc (.cells rs el)) := by
    intro zero hzero
    obtain ⟨h1, h2⟩ := zz zero hzero
    obtain ⟨rs, hrs, hrl, hrr⟩ := fill_rel _ (parts.map fun (p : Nat × Operand) => (p.1, a.eval p.2)).toList _ _ _ h1 h2 hpl hpr hfill
    refine ⟨rs, hrs, ?_⟩
    have hlen : cells.length = n * T.size el := by
      have hs : ∀ (pl : Nat → Option (Nat × Nat)) (ps : List (Nat × AV)) (c r : List AV), fillA pl c ps = some r → r.length = c.length := by
        intro pl ps
        induction ps with
        | nil => intro c r hh; simp only [fillA, Option.some.injEq] at hh; rw [hh]
        | cons p ps ih =>
          intro c r hh
          obtain ⟨i, v⟩ := p
          simp only [fillA] at hh
          split at hh
          case h_2 => cases hh
          split at hh
          case isFalse => cases hh
          rename_i hc
          rw [ih _ _ hh, put_length hc.2]
      rw [hs _ _ _ _ hfill, repA_length, hzl, hzs]
    exact row_sound h el n hrl hrr (Nat.le_refl _) (fun _ => rfl) (by rw [hrl, hlen]; exact Nat.le_refl _) hw
  by_cases h0 : n * T.size el = 0
  · obtain ⟨rs, hrs, hg⟩ := fin #[] (.inl ⟨h0, rfl⟩)
    refine ⟨_, _, ?_, hg⟩
    simp only [Instr.buildSlice, Sem.run_bind, run_underlying htd, Result.andThen_ok, run_sizeOf ok hne, Sem.run_ite, Sem.run_pure]
    rw [if_neg (by omega), if_pos h0]
    simp only [Sem.run_bind, Sem.run_pure, Result.andThen_ok, hrs, newRow, run_newObj_alloc]
  · obtain ⟨rs, hrs, hg⟩ := fin z.cells (.inr ⟨h0, rfl⟩)
    refine ⟨_, _, ?_, hg⟩
    simp only [Instr.buildSlice, Sem.run_bind, run_underlying htd, Result.andThen_ok, run_sizeOf ok hne, Sem.run_ite, Sem.run_pure]
    rw [if_neg (by omega), if_neg h0]
    simp only [Sem.run_bind, Sem.run_pure, Result.andThen_ok, hz, hrs, newRow, run_newObj_alloc]

theorem ip_drop {cells : List AV} {b off k : Nat} {f : Nat → Value} (hp : ∀ i, i < cells.length → γ.prot b (off + i) ∧ w.cell? ⟨b, off + i, none⟩ = some (f i))
    (hq : ∀ i (h : i < cells.length), pureS cells[i] = true) (hr : ∀ i (h : i < cells.length), VRel γ w cells[i] (f i)) (r : List AV) (n : Nat) (h : (cells.drop k).take n = r) : VRel γ w (.ip r) (.pointer (some ⟨b, off + k, none⟩)) := by
  subst h
  refine .ip _ b (off + k) (fun i => f (k + i)) (fun i hi => ?_) (fun i hi => ?_) (fun i hi => ?_)
  · have := hp (k + i) (by simp at hi; omega)
    rwa [← Nat.add_assoc] at this
  · simp only [List.getElem_take, List.getElem_drop]
    exact hq _ (by simp at hi; omega)
  · simp only [List.getElem_take, List.getElem_drop]
    exact hr _ (by simp at hi; omega)

theorem fieldAddr_sound (ok : TabOk P T) (h : Rel T.glob γ σ w) {s : TypeId} {x : AV} {cx : Value} {fi : Nat} (hx : VRel γ w x cx) (hw : wFieldAddr T s x fi σ K) :
    ∃ cv, (Instr.fieldAt s cx fi).run P w = .ok cv w ∧ Good T γ σ.base w K cv w := by
  unfold wFieldAddr at hw
  have htd := ok.td s
  split at hw
  case h_2 => exact hw.elim
  rename_i fs hd
  simp only [hd, TDok] at htd
  obtain ⟨fields, hu, hfs⟩ := htd
  split at hw
  case h_2 => exact hw.elim
  rename_i off ft hfi
  rw [fields_at hfs] at hfi
  obtain ⟨fd, hfd, heq⟩ := Option.map_eq_some_iff.1 hfi
  obtain ⟨rfl, rfl⟩ := Prod.mk.injEq .. ▸ heq
  obtain ⟨hne, hw⟩ := hw
  have hplace : ∀ a : Addr, (fieldPlace a fd).run P w = .ok (a.add fd.offset) w := fun a => by
    simp [fieldPlace, run_sizeOf ok hne, Result.andThen, hne]
  have hrun : ∀ a : Addr, (Instr.fieldAt s (.pointer (some a)) fi).run P w = .ok (.pointer (some (a.add fd.offset))) w := fun a => by
    simp [Instr.fieldAt, Instr.sureAddr, run_underlying hu, Result.andThen, hfd, hplace]
  cases hx <;> simp only at hw
  case ip cells b o f hp hq hr =>
    exact ⟨_, hrun _, good_here h (by rw [add_at]; exact ip_drop hp hq hr (cells.drop fd.offset) cells.length (by rw [List.take_of_length_le (by simp)])) hw⟩
  case ptr o g of a ho hg ha =>
    exact ⟨_, hrun _, good_here h (.ptr _ _ _ _ ho hg fun e => by rw [ha e, add_at]) hw⟩

theorem part_run (ok : TabOk P T) {t : TypeId} {cells : List AV} {cs : Array Value} {off : Nat} {Kv : AV → Prop} (hl : cs.size = cells.length) (hr : ∀ i (h : i < cells.length), VRel γ w cells[i] (cs.getD i undef))
    (h : valA T t (cells.drop off) Kv) : ∃ v cv, Kv v ∧ VRel γ w v cv ∧ (part t cs off).run P w = .ok cv w := by
  unfold valA at h
  have scal : T.td t ≠ .other → (T.td t).agg = false → (∃ v rest, cells.drop off = v :: rest ∧ Kv v) → ∃ v cv, Kv v ∧ VRel γ w v cv ∧ (part t cs off).run P w = .ok cv w := by
    clear h
    rintro h1 h2 ⟨v, rest, hcell, hk⟩
    have hlt : off < cells.length := by
      rcases Nat.lt_or_ge off cells.length with h | h
      · exact h
      · rw [List.drop_eq_nil_of_le h] at hcell; cases hcell
    have hv : cells[off] = v := by
      have := List.drop_eq_getElem_cons hlt
      rw [hcell] at this
      injection this with a b; exact a.symm
    refine ⟨v, cs.getD off undef, hk, hv ▸ hr off hlt, ?_⟩
    have : off < cs.size := by omega
    simp [part, run_isAgg ok h1, h2, Result.andThen, Array.getElem?_eq_getElem this, Array.getD, this]
  have aggr : T.td t ≠ .other → (T.td t).agg = true → (T.size t ≠ 0 ∧ T.size t ≤ (cells.drop off).length ∧ Kv (.agg ((cells.drop off).take (T.size t)))) → ∃ v cv, Kv v ∧ VRel γ w v cv ∧ (part t cs off).run P w = .ok cv w := by
    intro h1 h2 ⟨hs, hlen, h⟩
    simp only [List.length_drop] at hlen
    refine ⟨_, .agg (cs.extract off (off + T.size t)), h, .agg _ _ (by simp; omega) fun i hi => ?_, ?_⟩
    · have hi' : i < T.size t := by simp at hi; omega
      have h3 : i < (cs.extract off (off + T.size t)).size := by simp; omega
      have h4 : off + i < cs.size := by omega
      simp only [Array.getD, h3, dif_pos, List.getElem_take, List.getElem_drop]
      have := hr (off + i) (by omega)
      simpa [Array.getD, h4] using this
    · simp [part, run_isAgg ok h1, h2, Result.andThen, run_sizeOf ok hs]
  cases hd : T.td t <;> simp only [hd] at h
  case arr => exact aggr (by simp [hd]) (by simp [hd, TD.agg]) h
  case st => exact aggr (by simp [hd]) (by simp [hd, TD.agg]) h
  all_goals exact scal (by simp [hd]) (by simp [hd, TD.agg]) (by cases hc : cells.drop off with | nil => rw [hc] at h; exact h.elim | cons v r => rw [hc] at h; exact ⟨v, r, rfl, h⟩)

theorem field_sound (ok : TabOk P T) (h : Rel T.glob γ σ w) {s : TypeId} {x : AV} {cx : Value} {fi : Nat} (hx : VRel γ w x cx) (hw : wField T s x fi σ K) :
    ∃ cv, (Instr.field s cx fi).run P w = .ok cv w ∧ Good T γ σ.base w K cv w := by
  unfold wField at hw
  have htd := ok.td s
  split at hw
  case h_2 => exact hw.elim
  rename_i fs hd
  simp only [hd, TDok] at htd
  obtain ⟨fields, hu, hfs⟩ := htd
  split at hw
  case h_2 => exact hw.elim
  rename_i off ft hfi
  rw [fields_at hfs] at hfi
  obtain ⟨fd, hfd, heq⟩ := Option.map_eq_some_iff.1 hfi
  obtain ⟨rfl, rfl⟩ := Prod.mk.injEq .. ▸ heq
  cases hx <;> simp only at hw
  case agg cells cs hl hr =>
    obtain ⟨v, cv, hk, hv, hrun⟩ := part_run (P := P) ok hl hr hw
    exact ⟨cv, by simp [Instr.field, run_underlying hu, Result.andThen, hfd, asAgg, hrun], good_here h hv hk⟩

theorem idx_of {ix : AV} {cix : Value} {len : Nat} {Kn : Nat → Prop} (hx : VRel γ w ix cix) (h : wIdx ix len Kn) : ∃ (k : IntKind) (i : Nat), cix = .int k (i : Int) ∧ i < len ∧ Kn i := by
  cases hx <;> simp only [wIdx] at h
  obtain ⟨i, rfl, hi, hk⟩ := h
  exact ⟨_, i, rfl, hi, hk⟩

theorem indexAddr_sound (ok : TabOk P T) (h : Rel T.glob γ σ w) {t : TypeId} {x ix : AV} {cx cix : Value} (hx : VRel γ w x cx) (hix : VRel γ w ix cix) (hw : wIndexAddr T t x ix σ K) :
    ∃ cv, (Instr.indexAt t cx cix).run P w = .ok cv w ∧ Good T γ σ.base w K cv w := by
  unfold wIndexAddr at hw
  have htd := ok.td t
  split at hw
  case h_5 => exact hw.elim
  case h_1 n el cells hd =>
    simp only [hd, TDok] at htd
    obtain ⟨hne, hw⟩ := hw
    obtain ⟨k, i, rfl, hi, r, hr', hk⟩ := idx_of hix hw
    cases hx
    rename_i b off f hp hq hr
    refine ⟨_, ?_, good_here h (ip_drop hp hq hr r _ hr') hk⟩
    have : (0 : Int) ≤ i ∧ (i : Int) < n := ⟨by omega, by omega⟩
    simp [Instr.indexAt, asIntOf, run_underlying htd, Result.andThen, Instr.sureAddr, this, run_sizeOf ok hne, add_at, hi]
  case h_2 n el o g off hd =>
    simp only [hd, TDok] at htd
    obtain ⟨hne, hw⟩ := hw
    obtain ⟨k, i, rfl, hi, hk⟩ := idx_of hix hw
    cases hx
    rename_i a ho hg ha
    refine ⟨.pointer (some (a.add (i * T.size el))), ?_, good_here h (.ptr _ _ _ _ ho hg fun e => by rw [ha e, add_at]) hk⟩
    simp [Instr.indexAt, asIntOf, run_underlying htd, Result.andThen, Instr.sureAddr, run_sizeOf ok hne, hi]
  case h_3 el full len cells hd =>
    simp only [hd, TDok] at htd
    obtain ⟨hne, hw⟩ := hw
    obtain ⟨k, i, rfl, hi, r, hr', hk⟩ := idx_of hix hw
    cases hx
    rename_i b off cap f hcap hfull hp hq hr
    refine ⟨_, ?_, good_here h (ip_drop hp hq hr r _ hr') hk⟩
    simp [Instr.indexAt, asIntOf, run_underlying htd, Result.andThen, run_sizeOf ok hne, add_at, hi]
  case h_4 el o g off len esz hd =>
    simp only [hd, TDok] at htd
    obtain ⟨hne, hw⟩ := hw
    obtain ⟨k, i, rfl, hi, hk⟩ := idx_of hix hw
    cases hx
    rename_i a cap ho hg hcap ha
    refine ⟨.pointer (some (a.add (i * T.size el))), ?_, good_here h (.ptr _ _ _ _ ho hg fun e => by rw [(ha e).1, add_at]) hk⟩
    simp [Instr.indexAt, asIntOf, run_underlying htd, Result.andThen, run_sizeOf ok hne, hi]

theorem index_sound (ok : TabOk P T) (h : Rel T.glob γ σ w) {t : TypeId} {x ix : AV} {cx cix : Value} (hx : VRel γ w x cx) (hix : VRel γ w ix cix) (hw : wIndex T t x ix σ K) :
    ∃ cv, (Instr.index t cx cix).run P w = .ok cv w ∧ Good T γ σ.base w K cv w := by
  unfold wIndex at hw
  have htd := ok.td t
  split at hw
  case h_3 => exact hw.elim
  case h_1 n el cells hd =>
    simp only [hd, TDok] at htd
    obtain ⟨hne, hw⟩ := hw
    obtain ⟨k, i, rfl, hi, hval⟩ := idx_of hix hw
    cases hx
    rename_i cs hl hr
    obtain ⟨v, cv, hk, hv, hrun⟩ := part_run (P := P) ok hl hr hval
    refine ⟨cv, ?_, good_here h hv hk⟩
    simp [Instr.index, asIntOf, run_underlying htd, Result.andThen, run_sizeOf ok hne, hi, hrun]
  case h_2 s hd =>
    simp only [hd, TDok] at htd
    obtain ⟨k, i, rfl, hi, c, hc, hk⟩ := idx_of hix hw
    cases hx
    refine ⟨.int .u8 c.toNat, ?_, good_here h (.int _ _) hk⟩
    have : (⟨s.toArray⟩ : ByteArray)[i]? = some c := by
      have hlt : i < (⟨s.toArray⟩ : ByteArray).size := by simpa [ByteArray.size] using hi
      rw [getElem?_pos _ i hlt]
      obtain ⟨_, h2⟩ := List.getElem?_eq_some_iff.1 hc
      congr 1
    simp [Instr.index, asIntOf, run_underlying htd, Result.andThen, this]

theorem bnd_of {b : Option AV} {cb : Option Value} {d : Nat} {Kn : Nat → Prop} (hb : ∀ v, b = some v → ∃ cv, cb = some cv ∧ VRel γ w v cv) (hn : b = none → cb = none) (h : wBnd b d Kn) :
    ∃ i : Nat, Kn i ∧ ((b = none ∧ cb = none ∧ i = d) ∨ ∃ k, cb = some (.int k (i : Int))) := by
  cases b with
  | none => exact ⟨d, h, .inl ⟨rfl, hn rfl, rfl⟩⟩
  | some v =>
    obtain ⟨cv, rfl, hv⟩ := hb v rfl
    cases hv <;> simp only [wBnd] at h
    obtain ⟨i, rfl, hk⟩ := h
    exact ⟨i, hk, .inr ⟨_, rfl⟩⟩

theorem run_bnd (k : IntKind) (i y : Nat) (code : BoundsCode) (h : i ≤ y) : (Instr.sliceBound (.int k (i : Int)) y code).run P w = .ok i w := by
  have := run_sliceBound (P := P) w k (i : Int) y code (by omega) (by omega)
  simpa using this

theorem run_bounds (isSlice : Bool) {len cap : Nat} {b hi : Option AV} {clo chi : Option Value} {l h' : Nat}
    (hhi : (hi = none ∧ chi = none ∧ h' = len) ∨ ∃ k, chi = some (.int k (h' : Int))) (hlo : (b = none ∧ clo = none ∧ l = 0) ∨ ∃ k, clo = some (.int k (l : Int))) (h1 : l ≤ h') (h2 : h' ≤ cap) :
    (Instr.sliceBounds isSlice len cap clo chi none).run P w = .ok (l, h', cap) w := by
  rcases hhi with ⟨_, rfl, rfl⟩ | ⟨k, rfl⟩ <;> rcases hlo with ⟨_, rfl, rfl⟩ | ⟨k', rfl⟩ <;> simp [Instr.sliceBounds, Result.andThen, run_bnd, h1, h2]

theorem run_bounds3 (isSlice : Bool) {len cap : Nat} {b : Option AV} {clo : Option Value} {l h' m : Nat} {k k2 : IntKind}
    (hlo : (b = none ∧ clo = none ∧ l = 0) ∨ ∃ k, clo = some (.int k (l : Int))) (h1 : l ≤ h') (h2 : h' ≤ m) (h3 : m ≤ cap) :
    (Instr.sliceBounds isSlice len cap clo (some (.int k (h' : Int))) (some (.int k2 (m : Int)))).run P w = .ok (l, h', m) w := by
  rcases hlo with ⟨_, rfl, rfl⟩ | ⟨k', rfl⟩ <;> simp [Instr.sliceBounds, Result.andThen, run_bnd, h1, h2, h3]

theorem map_opt {T : Tab} {e : Env} {N : Nat} {a : Act} (h : Rel T.glob γ σ w) (he : EnvRel γ w e N a) (o : Option Operand) :
    (∀ v, o.map (ev T e N) = some v → ∃ cv, o.map a.eval = some cv ∧ VRel γ w v cv) ∧ (o.map (ev T e N) = none → o.map a.eval = none) := by
  cases o with
  | none => exact ⟨fun v hv => by simp at hv, fun _ => rfl⟩
  | some x => exact ⟨fun v hv => ⟨a.eval x, rfl, by simp at hv; exact hv ▸ ev_rel h he x⟩, fun hv => by simp at hv⟩

/-- A slice of protected cells, cut. -/
theorem sl_cut {cells r : List AV} {b off l h' esz : Nat} {f : Nat → Value} {full : Bool} (hp : ∀ i, i < cells.length → γ.prot b (off + i) ∧ w.cell? ⟨b, off + i, none⟩ = some (f i))
    (hq : ∀ i (h : i < cells.length), pureS cells[i] = true) (hr : ∀ i (h : i < cells.length), VRel γ w cells[i] (f i)) (hcut : (cells.take (h' * esz)).drop (l * esz) = r) (hl : l ≤ h') {m : Nat} (hm : h' ≤ m) (hf : full = true → m = h') :
    VRel γ w (.sl full (h' - l) r) (.slice (if m = l then some ⟨b, off, none⟩ else some ⟨b, off + l * esz, none⟩) (h' - l) (m - l)) := by
  subst hcut
  by_cases hml : m = l
  · have : h' = l := by omega
    subst this
    rw [if_pos hml]
    refine .sl full _ _ b off _ f (by omega) (fun hh => by omega) (fun i hi => ?_) (fun i hi => ?_) fun i hi => ?_
    · simp at hi <;> omega
    · simp at hi <;> omega
    · simp at hi <;> omega
  · rw [if_neg hml]
    refine .sl full _ _ b (off + l * esz) _ (fun i => f (l * esz + i)) (by omega) (fun hh => by have := hf hh; omega) (fun i hi => ?_) (fun i hi => ?_) fun i hi => ?_
    · have := hp (l * esz + i) (by simp at hi; omega)
      rwa [← Nat.add_assoc] at this
    · simp only [List.getElem_drop, List.getElem_take]
      exact hq _ _
    · simp only [List.getElem_drop, List.getElem_take]
      exact hr _ _


theorem slice_sound (ok : TabOk P T) (h : Rel T.glob γ σ w) {e : Env} {N : Nat} {a : Act} (he : EnvRel γ w e N a) {t : TypeId} {x : AV} {cx : Value} {lo hi mx : Option Operand} (hx : VRel γ w x cx)
    (hw : wSlice T t x (lo.map (ev T e N)) (hi.map (ev T e N)) (mx.map (ev T e N)) σ K) :
    ∃ cv, (Instr.sliceAt t cx (lo.map a.eval) (hi.map a.eval) (mx.map a.eval)).run P w = .ok cv w ∧ Good T γ σ.base w K cv w := by
  obtain ⟨hlo1, hlo2⟩ := map_opt h he lo
  obtain ⟨hhi1, hhi2⟩ := map_opt h he hi
  obtain ⟨hmx1, hmx2⟩ := map_opt h he mx
  generalize lo.map (ev T e N) = alo at hw hlo1 hlo2
  generalize hi.map (ev T e N) = ahi at hw hhi1 hhi2
  generalize mx.map (ev T e N) = amx at hw hmx1 hmx2
  generalize lo.map a.eval = clo at hlo1 hlo2 ⊢
  generalize hi.map a.eval = chi at hhi1 hhi2 ⊢
  generalize mx.map a.eval = cmx at hmx1 hmx2 ⊢
  unfold wSlice at hw
  have htd := ok.td t
  split at hw
  case h_9 => exact hw.elim
  case h_1 s hd =>
    simp only [hd, TDok] at htd
    obtain rfl := hmx2 rfl
    obtain ⟨h', hw, hbh⟩ := bnd_of hhi1 hhi2 hw
    obtain ⟨l, hw, hbl⟩ := bnd_of hlo1 hlo2 hw
    obtain ⟨hlh, hhl, r, hr, hk⟩ := hw
    cases hx
    have hsz : (⟨s.toArray⟩ : ByteArray).size = s.length := by simp [ByteArray.size]
    refine ⟨.string ((⟨s.toArray⟩ : ByteArray).extract l h'), ?_, good_here h ?_ hk⟩
    · have hb := run_bounds (P := P) (w := w) false (cap := (⟨s.toArray⟩ : ByteArray).size) (len := (⟨s.toArray⟩ : ByteArray).size) (by rw [hsz]; exact hbh) hbl hlh (by rw [hsz]; exact hhl)
      simp [Instr.sliceAt, Instr.slice, run_underlying htd, Result.andThen, hb]
    · have : (⟨s.toArray⟩ : ByteArray).extract l h' = ⟨r.toArray⟩ := by
        subst hr
        apply ByteArray.ext
        simp [ByteArray.data_extract]
        rw [List.drop_take]
      rw [this]
      exact .str r
  case h_2 el full len cells hd =>
    simp only [hd, TDok] at htd
    obtain rfl := hmx2 rfl
    obtain ⟨hne, hw⟩ := hw
    obtain ⟨h', hw, hbh⟩ := bnd_of hhi1 hhi2 hw
    obtain ⟨l, hw, hbl⟩ := bnd_of hlo1 hlo2 hw
    obtain ⟨hlh, hhl, r, hr, hk⟩ := hw
    cases hx
    rename_i b off cap f hcap hfull hp hq hrr
    have hb := run_bounds (P := P) (w := w) true hbh hbl hlh (Nat.le_trans hhl hcap)
    refine ⟨_, ?_, good_here h (sl_cut (m := cap) hp hq hrr hr hlh (Nat.le_trans hhl hcap) fun hf => ?_) hk⟩
    · simp [Instr.sliceAt, Instr.slice, run_underlying htd, Result.andThen, hb, run_sizeOf ok hne, add_at]
    · simp only [Bool.and_eq_true] at hf
      rw [Nat.eq_of_beq_eq_true hf.2]; exact hfull hf.1
  case h_3 el full len cells m hd =>
    simp only [hd, TDok] at htd
    obtain ⟨hne, hw⟩ := hw
    obtain ⟨m', hw, hbm⟩ := bnd_of hmx1 hmx2 hw
    obtain ⟨h', hw, hbh⟩ := bnd_of hhi1 hhi2 hw
    obtain ⟨l, hw, hbl⟩ := bnd_of hlo1 hlo2 hw
    obtain ⟨his, hlh, hhm, hml, r, hr, hk⟩ := hw
    rcases hbm with ⟨hc, _⟩ | ⟨k2, rfl⟩
    · cases hc
    rcases hbh with ⟨rfl, _⟩ | ⟨k, rfl⟩
    · simp at his
    cases hx
    rename_i b off cap f hcap hfull hp hq hrr
    have hb := run_bounds3 (P := P) (w := w) true (len := len) (cap := cap) (k := k) (k2 := k2) hbl hlh hhm (Nat.le_trans hml hcap)
    refine ⟨_, ?_, good_here h (sl_cut (m := m') hp hq hrr hr hlh hhm fun hf => ?_) hk⟩
    · simp [Instr.sliceAt, Instr.slice, run_underlying htd, Result.andThen, hb, run_sizeOf ok hne, add_at]
    · exact (Nat.eq_of_beq_eq_true hf).symm
  case h_4 el hd =>
    simp only [hd, TDok] at htd
    obtain rfl := hmx2 rfl
    obtain ⟨hne, hw⟩ := hw
    obtain ⟨h', hw, hbh⟩ := bnd_of hhi1 hhi2 hw
    obtain ⟨l, hw, hbl⟩ := bnd_of hlo1 hlo2 hw
    obtain ⟨rfl, rfl, hk⟩ := hw
    cases hx
    have hb := run_bounds (P := P) (w := w) true (len := 0) (cap := 0) hbh hbl (Nat.le_refl _) (Nat.le_refl _)
    exact ⟨_, by simp [Instr.sliceAt, Instr.slice, run_underlying htd, Result.andThen, hb, run_sizeOf ok hne], good_here h .nils hk⟩
  case h_5 el o g off len esz hd =>
    simp only [hd, TDok] at htd
    obtain rfl := hmx2 rfl
    obtain ⟨hne, rfl, hw⟩ := hw
    obtain ⟨h', hw, hbh⟩ := bnd_of hhi1 hhi2 hw
    obtain ⟨l, hw, hbl⟩ := bnd_of hlo1 hlo2 hw
    obtain ⟨hlh, hhl, hw⟩ := hw
    cases hx
    rename_i a cap ho hg hcap ha
    have hb := run_bounds (P := P) (w := w) true hbh hbl hlh (Nat.le_trans hhl hcap)
    rcases hw with ⟨hor, hk⟩ | ⟨hll, hpos, ⟨cells, wm, hlt, hrow⟩, hk⟩
    · have haa : (if cap = l then (some a : Option Addr) else some (a.add (l * T.size el))) = some (a.add (l * T.size el)) := by
        by_cases hcl : cap = l
        · have : l = 0 := by omega
          subst this
          rw [if_pos hcl]; simp [Addr.add]
        · rw [if_neg hcl]
      refine ⟨.slice (some (a.add (l * T.size el))) (h' - l) (cap - l), ?_, good_here h (.ms _ _ _ _ _ _ _ ho hg (by omega) fun e => ?_) hk⟩
      · simp only [Instr.sliceAt, Instr.slice, run_underlying htd, Sem.run_bind, Result.andThen_ok, hb, run_sizeOf ok hne, Sem.run_pure, Option.map_some, haa]
      · obtain ⟨h1, h2⟩ := ha e
        refine ⟨by rw [h1, add_at], ?_⟩
        rw [Nat.sub_mul]
        have : l * T.size el ≤ cap * T.size el := Nat.mul_le_mul_right _ (by omega)
        omega
    · obtain ⟨h1, h2⟩ := ha (h.row ho hrow).1.1
      subst h1
      have hh : h' = l := by omega
      subst hh
      have haa : (if cap = h' then (some ⟨γ.blk o, off, none⟩ : Option Addr) else some ((⟨γ.blk o, off, none⟩ : Addr).add (h' * T.size el))) = some ⟨γ.blk o, if cap = h' then off else off + h' * T.size el, none⟩ := by
        split
        · rfl
        · rw [add_at]
      refine ⟨.slice (some ⟨γ.blk o, if cap = h' then off else off + h' * T.size el, none⟩) (h' - h') (cap - h'), ?_, good_here h ?_ hk⟩
      · simp only [Instr.sliceAt, Instr.slice, run_underlying htd, Sem.run_bind, Result.andThen_ok, hb, run_sizeOf ok hne, Sem.run_pure, Option.map_some, haa]
      · rw [Nat.sub_self]
        exact .sl false 0 [] _ _ _ (fun _ => undef) (Nat.zero_le _) (fun h => by cases h) (fun i hi => absurd hi (by simp)) (fun i hi => absurd hi (by simp)) fun i hi => absurd hi (by simp)
  case h_6 el o g off len esz m hd =>
    simp only [hd, TDok] at htd
    obtain ⟨hne, rfl, hw⟩ := hw
    obtain ⟨m', hw, hbm⟩ := bnd_of hmx1 hmx2 hw
    obtain ⟨h', hw, hbh⟩ := bnd_of hhi1 hhi2 hw
    obtain ⟨l, hw, hbl⟩ := bnd_of hlo1 hlo2 hw
    obtain ⟨his, hlh, hhm, hml, hor, hk⟩ := hw
    rcases hbm with ⟨hc, _⟩ | ⟨k2, rfl⟩
    · cases hc
    rcases hbh with ⟨rfl, _⟩ | ⟨k, rfl⟩
    · simp at his
    cases hx
    rename_i a cap ho hg hcap ha
    have hb := run_bounds3 (P := P) (w := w) true (len := len) (cap := cap) (k := k) (k2 := k2) hbl hlh hhm (Nat.le_trans hml hcap)
    have haa : (if m' = l then (some a : Option Addr) else some (a.add (l * T.size el))) = some (a.add (l * T.size el)) := by
      by_cases hcl : m' = l
      · have : l = 0 := by omega
        subst this
        rw [if_pos hcl]; simp [Addr.add]
      · rw [if_neg hcl]
    refine ⟨.slice (some (a.add (l * T.size el))) (h' - l) (m' - l), ?_, good_here h (.ms _ _ _ _ _ _ _ ho hg (by omega) fun e => ?_) hk⟩
    · simp only [Instr.sliceAt, Instr.slice, run_underlying htd, Sem.run_bind, Result.andThen_ok, hb, run_sizeOf ok hne, Sem.run_pure, Option.map_some, haa]
    · obtain ⟨h1, h2⟩ := ha e
      refine ⟨by rw [h1, add_at], ?_⟩
      have h3 : (m' - l) * T.size el + l * T.size el = m' * T.size el := by rw [← Nat.add_mul]; congr 1; omega
      have h4 : m' * T.size el ≤ cap * T.size el := Nat.mul_le_mul_right _ (by omega)
      omega
  case h_7 n el cells hd =>
    simp only [hd, TDok] at htd
    obtain rfl := hmx2 rfl
    obtain ⟨hne, hw⟩ := hw
    obtain ⟨h', hw, hbh⟩ := bnd_of hhi1 hhi2 hw
    obtain ⟨l, hw, hbl⟩ := bnd_of hlo1 hlo2 hw
    obtain ⟨hlh, hhl, r, hr, hk⟩ := hw
    cases hx
    rename_i b off f hp hq hrr
    have hb := run_bounds (P := P) (w := w) false (len := n) (cap := n) hbh hbl hlh hhl
    refine ⟨_, ?_, good_here h (sl_cut (m := n) hp hq hrr hr hlh hhl fun hf => ?_) hk⟩
    · simp [Instr.sliceAt, Instr.sureAddr, run_underlying htd, Result.andThen, hb, run_sizeOf ok hne, add_at]
      split <;> rfl
    · exact (Nat.eq_of_beq_eq_true hf).symm
  case h_8 n el o g off hd =>
    simp only [hd, TDok] at htd
    obtain rfl := hmx2 rfl
    obtain ⟨hne, hw⟩ := hw
    obtain ⟨h', hw, hbh⟩ := bnd_of hhi1 hhi2 hw
    obtain ⟨l, hw, hbl⟩ := bnd_of hlo1 hlo2 hw
    obtain ⟨hlh, hhl, hor, cells, wm, hon, hrow, hfit, hk⟩ := hw
    cases hx
    rename_i a ho hg ha
    obtain ⟨⟨hge, hnf⟩, c, elc, fr, hh, hs, hl, hv, hf, hp⟩ := h.row ho hrow
    obtain rfl := ha hge
    have hb := run_bounds (P := P) (w := w) false (len := n) (cap := n) hbh hbl hlh hhl
    have haa : (if n = l then (⟨γ.blk o, off, none⟩ : Addr) else (⟨γ.blk o, off, none⟩ : Addr).add (l * T.size el)) = ⟨γ.blk o, off + l * T.size el, none⟩ := by
      by_cases hcl : n = l
      · have : l = 0 := by omega
        subst this
        rw [if_pos hcl]; simp
      · rw [if_neg hcl, add_at]
    refine ⟨.slice (some ⟨γ.blk o, off + l * T.size el, none⟩) (h' - l) (n - l), ?_, good_here h (.ms _ _ _ _ _ _ _ ho hg (by omega) fun e => ⟨rfl, ?_⟩) hk⟩
    · simp only [Instr.sliceAt, Instr.sureAddr, run_underlying htd, Sem.run_bind, Result.andThen_ok, hb, run_sizeOf ok hne, Sem.run_pure, haa]
    · rw [Nat.sub_mul]
      have : l * T.size el ≤ n * T.size el := Nat.mul_le_mul_right _ (by omega)
      omega

end Go.Proofs.QQ
end
section
set_option linter.unusedVariables false
set_option linter.unusedSimpArgs false
namespace Go.Proofs.QQ
open Go

variable {P : Program} {T : Tab} {γ : Gh} {σ : St} {w : World} {K : AV → St → Prop}

theorem sameInt_eq {k k' : IntKind} (h : sameInt k k' = true) : k = k' := by
  cases k <;> cases k' <;> first | rfl | (simp [sameInt] at h)

/-- What `peq` says of a type: plain structs are compared cell by cell. -/
def PeqOk (P : Program) (T : Tab) : Prop :=
  ∀ (t : TypeId) (xs ys : List AV), (T.peq t xs && T.peq t ys) = true → ∀ (w : World) (cs ds : Array Value) (b : Bool), cs.size = xs.length → ds.size = ys.length →
    (∀ i (h : i < xs.length), ∃ γ w, VRel γ w xs[i] (cs.getD i undef)) → (∀ i (h : i < ys.length), ∃ γ w, VRel γ w ys[i] (ds.getD i undef)) → eqL xs ys = some b →
    (eqGuard .eql t (.tmp 0) (.tmp 0) (.agg cs) (.agg ds)).run P w = .ok () w ∧ (Op.equal t (.agg cs) (.agg ds)).run P w = .ok b w

theorem str_eq (a b : List UInt8) : ((⟨a.toArray⟩ : ByteArray).toList == (⟨b.toArray⟩ : ByteArray).toList) = (a == b) := by
  rw [Go.ByteArray.toList_eq, Go.ByteArray.toList_eq]
theorem str_list (l : List UInt8) : (⟨l.toArray⟩ : ByteArray).toList = l := by rw [Go.ByteArray.toList_eq]

theorem run_intBits (op : BinOp) (k : IntKind) (a b : Int) : (Op.intBits op k a b).run P w = match op with
    | .and => .ok (.int k (k.wrap (((a % 2 ^ k.bits).toNat &&& (b % 2 ^ k.bits).toNat : Nat) : Int))) w
    | .or => .ok (.int k (k.wrap (((a % 2 ^ k.bits).toNat ||| (b % 2 ^ k.bits).toNat : Nat) : Int))) w
    | .xor => .ok (.int k (k.wrap (((a % 2 ^ k.bits).toNat ^^^ (b % 2 ^ k.bits).toNat : Nat) : Int))) w
    | .andNot => .ok (.int k (k.wrap (((a % 2 ^ k.bits).toNat &&& (2 ^ k.bits - 1 - (b % 2 ^ k.bits).toNat) : Nat) : Int))) w
    | _ => (Op.intBits op k a b).run P w := by
  have hb : ∀ x : Int, (BitVec.ofInt k.bits x).toNat = (x % 2 ^ k.bits).toNat := fun x => by simp [BitVec.toNat_ofInt]
  cases op
  case and | or | xor | andNot =>
    unfold Op.intBits
    simp only [Sem.run_pure, BitVec.toNat_and, BitVec.toNat_or, BitVec.toNat_xor, BitVec.toNat_not, hb]
    try rfl
  all_goals rfl

theorem run_intBin {op : BinOp} {k : IntKind} {a b : Int} {v : AV} (t : TypeId) (h : intBin op k a b = some v) :
    ∃ cv, (binOp op t (.int k a) (.int k b)).run P w = .ok cv w ∧ ∀ γ w, VRel γ w v cv := by
  cases op <;> simp only [intBin, Option.some.injEq, reduceCtorEq] at h <;> subst h
  iterate 3
    · exact ⟨_, by simp [binOp, Op.intArith], fun _ _ => .int _ _⟩
  iterate 4
    · exact ⟨_, by simp only [binOp, ne_eq, not_true_eq_false, if_false, run_intBits], fun _ _ => .int _ _⟩
  all_goals exact ⟨_, by simp [binOp, Op.intCmp], fun _ _ => .bool _⟩

theorem run_strBin {op : BinOp} {a b : List UInt8} {v : AV} (t : TypeId) (h : strBin op a b = some v) :
    ∃ cv, (binOp op t (.string ⟨a.toArray⟩) (.string ⟨b.toArray⟩)).run P w = .ok cv w ∧ ∀ γ w, VRel γ w v cv := by
  cases op <;> simp only [strBin, Option.some.injEq, reduceCtorEq] at h <;> subst h
  all_goals exact ⟨_, by simp only [binOp, Op.stringOp, str_list]; rfl, fun _ _ => .bool _⟩

theorem guard_none {op : BinOp} {t : TypeId} {x y : Operand} {a b : Value} (h1 : ∀ cs ds, a = .agg cs → b = .agg ds → False) (h2 : a = .nilIface → b = .nilIface → False) :
    (eqGuard op t x y a b).run P w = .ok () w := by
  have key : (op = .eql ∨ op = .neq) → (eqGuard op t x y a b) = pure () := by
    intro hop
    rcases hop with rfl | rfl
    all_goals
      unfold eqGuard
      simp only [Bool.not_true, Bool.false_eq_true, if_false]
  by_cases hop : op = .eql ∨ op = .neq
  · rw [key hop]; rfl
  · unfold eqGuard
    cases op <;> first | rfl | (exact absurd (.inl rfl) hop) | (exact absurd (.inr rfl) hop)

theorem run_shift (op : BinOp) (hop : op = .shl ∨ op = .shr) (k k' : IntKind) (a b : Int) (hb : 0 ≤ b) (t : TypeId) :
    (binOp op t (.int k a) (.int k' b)).run P w = .ok (.int k (if op = .shl then k.wrap (a * 2 ^ (min b.toNat k.bits)) else a.fdiv (2 ^ (min b.toNat k.bits)))) w := by
  rcases hop with rfl | rfl
  · simp [binOp, Op.shift, show ¬ b < 0 by omega]
  · simp [binOp, Op.shift, show ¬ b < 0 by omega]

theorem nil_eqIn (ok : TabOk P T) (d : Nat) {t : TypeId} {x y : AV} {cx cy : Value} {b : Bool} (hx : VRel γ w x cx) (hy : VRel γ w y cy) (h : nilA (T.td t) x y = some b) :
    (Op.equalIn (d + 1) t cx cy).run P w = .ok b w ∧ (∀ (op : BinOp) (ex ey : Operand), (eqGuard op t ex ey cx cy).run P w = .ok () w) ∧
      (binOp .eql t cx cy).run P w = ((Op.equal t cx cy).run P w).andThen (fun b w => .ok (.bool b) w) ∧ (binOp .neq t cx cy).run P w = ((Op.equal t cx cy).run P w).andThen (fun b w => .ok (.bool !b) w) := by
  have htd := ok.td t
  unfold nilA at h
  split at h
  case h_11 => cases h
  case h_7 hd | h_8 hd =>
    simp only [hd, TDok] at htd
    obtain ⟨p1, p2, p3, hu⟩ := htd
    cases h
    cases hx; cases hy
    refine ⟨?_, fun op ex ey => guard_none (by simp) (by simp), ?_, ?_⟩ <;> simp only [binOp, Op.equalIn, Sem.run_bind, run_underlying hu, Result.andThen_ok, Sem.run_pure] <;> rfl
  all_goals
    rename_i hd
    simp only [hd, TDok] at htd
    cases h
    cases hx; cases hy
    refine ⟨?_, fun op ex ey => guard_none (by simp) (by simp), ?_, ?_⟩ <;> simp only [binOp, Op.equalIn, Sem.run_bind, run_underlying htd, Result.andThen_ok, Sem.run_pure] <;> rfl

theorem bool_eqIn (d : Nat) {t : TypeId} (hu : P.underlying t = some .bool) (a b : Bool) : (Op.equalIn (d + 1) t (.bool a) (.bool b)).run P w = .ok (a == b) w := by
  simp only [Op.equalIn, Sem.run_bind, run_underlying hu, Result.andThen_ok, Sem.run_pure]

theorem bin_sound (ok : TabOk P T) (pe : PeqOk P T) (h : Rel T.glob γ σ w) {op : BinOp} {t : TypeId} {x y : AV} {cx cy : Value} {ex ey : Operand} (hx : VRel γ w x cx) (hy : VRel γ w y cy) (hw : wBin T op t x y σ K) :
    ∃ cv, (do eqGuard op t ex ey cx cy; binOp op t cx cy : Sem Value).run P w = .ok cv w ∧ Good T γ σ.base w K cv w := by
  unfold wBin at hw
  simp only [Sem.run_bind]
  have gd : ∀ (a b : Value), (∀ cs ds, a = .agg cs → b = .agg ds → False) → (a = .nilIface → b = .nilIface → False) → (eqGuard op t ex ey a b).run P w = .ok () w := fun a b h1 h2 => guard_none h1 h2
  split at hw
  case h_1 k a k' b =>
    cases hx; cases hy
    rw [gd _ _ (by simp) (by simp)]
    simp only [Result.andThen_ok]
    split at hw
    · obtain ⟨hb, hk⟩ := hw
      exact ⟨_, run_shift .shl (.inl rfl) k k' a b hb t, good_here h (.int _ _) hk⟩
    · obtain ⟨hb, hk⟩ := hw
      exact ⟨_, run_shift .shr (.inr rfl) k k' a b hb t, good_here h (.int _ _) hk⟩
    · obtain ⟨hs, hb, hk⟩ := hw
      obtain rfl := sameInt_eq hs
      exact ⟨_, by simp [binOp, Op.intDiv, hb], good_here h (.int _ _) hk⟩
    · obtain ⟨hs, hb, hk⟩ := hw
      obtain rfl := sameInt_eq hs
      exact ⟨_, by simp [binOp, Op.intDiv, hb], good_here h (.int _ _) hk⟩
    · split at hw
      case h_2 => exact hw.elim
      rename_i v hs hv
      obtain rfl := sameInt_eq hs
      obtain ⟨cv, hrun, hr⟩ := run_intBin (P := P) (w := w) t hv
      exact ⟨cv, hrun, good_here h (hr _ _) hw⟩
  case h_2 a b =>
    cases hx; cases hy
    rw [gd _ _ (by simp) (by simp)]
    simp only [Result.andThen_ok]
    split at hw
    · obtain ⟨hl, hk⟩ := hw
      refine ⟨_, ?_, good_here h (.str (a ++ b)) hk⟩
      have := run_string_add_sum (P := P) w ⟨a.toArray⟩ ⟨b.toArray⟩ (by simp [ByteArray.size]; omega)
      have e : (⟨a.toArray⟩ : ByteArray) ++ ⟨b.toArray⟩ = ⟨(a ++ b).toArray⟩ := by apply ByteArray.ext; simp
      rw [e] at this
      simpa [binOp] using this
    · split at hw
      case h_2 => exact hw.elim
      rename_i v hv
      obtain ⟨cv, hrun, hr⟩ := run_strBin (P := P) (w := w) t hv
      exact ⟨cv, hrun, good_here h (hr _ _) hw⟩
  case h_3 a b =>
    cases hx; cases hy
    rw [gd _ _ (by simp) (by simp)]
    simp only [Result.andThen_ok]
    have htd := ok.td t
    split at hw
    · rename_i hd
      simp only [hd, TDok] at htd
      exact ⟨_, run_eql_bool (P := P) w t a b htd, good_here h (.bool _) hw⟩
    · rename_i hd
      simp only [hd, TDok] at htd
      exact ⟨_, run_neq_bool (P := P) w t a b htd, good_here h (.bool _) hw⟩
    · exact hw.elim
  case h_4 xs ys =>
    obtain ⟨hp, hw⟩ := hw
    cases hx; cases hy
    rename_i cs hl hr ds hl2 hr2
    split at hw
    · rename_i b he
      obtain ⟨h1, h2⟩ := pe t xs ys hp w cs ds b hl hl2 (fun i hi => ⟨γ, w, hr i hi⟩) (fun i hi => ⟨γ, w, hr2 i hi⟩) he
      have h1' : (eqGuard .eql t ex ey (.agg cs) (.agg ds)).run P w = .ok () w := h1
      rw [h1']
      exact ⟨.bool b, by simp only [binOp, Result.andThen_ok, Sem.run_bind, h2, Sem.run_pure], good_here h (.bool _) hw⟩
    · rename_i b he
      obtain ⟨h1, h2⟩ := pe t xs ys hp w cs ds b hl hl2 (fun i hi => ⟨γ, w, hr i hi⟩) (fun i hi => ⟨γ, w, hr2 i hi⟩) he
      have h1' : (eqGuard .neq t ex ey (.agg cs) (.agg ds)).run P w = .ok () w := h1
      rw [h1']
      exact ⟨.bool !b, by simp only [binOp, Result.andThen_ok, Sem.run_bind, h2, Sem.run_pure], good_here h (.bool _) hw⟩
    · exact hw.elim
  case h_5 o g off o' g' off' =>
    obtain ⟨⟨rfl, rfl, rfl⟩, ⟨e, hd, hne⟩, ⟨cells, wm, hlt, hrow⟩, hw⟩ := hw
    cases hx; cases hy
    rename_i a ho hg ha a' _ _ ha'
    obtain rfl := ha (h.row ho hrow).1.1
    obtain rfl := ha' (h.row ho hrow).1.1
    have htd : P.underlying t = some (.pointer e) := by have := ok.td t; simpa only [hd, TDok] using this
    have heq : (Op.equal t (.pointer (some ⟨γ.blk o, off, none⟩)) (.pointer (some ⟨γ.blk o, off, none⟩))).run P w = .ok true w := by
      have key : ∀ d : Nat, (Op.equalIn (d + 1) t (.pointer (some ⟨γ.blk o, off, none⟩)) (.pointer (some ⟨γ.blk o, off, none⟩))).run P w = .ok true w := fun d => by
        simp only [Op.equalIn, Sem.run_bind, run_underlying htd, Result.andThen_ok, run_sizeOf ok hne]
        rw [if_pos hne]
        simp [sameAddr]
      exact key 9999
    rw [gd _ _ (by simp) (by simp)]
    simp only [Result.andThen_ok]
    split at hw
    · exact ⟨.bool true, by simp [binOp, heq, Result.andThen], good_here h (.bool _) hw⟩
    · exact ⟨.bool false, by simp [binOp, heq, Result.andThen], good_here h (.bool _) hw⟩
    · exact hw.elim
  case h_6 =>
    split at hw
    · rename_i b he
      obtain ⟨h1, h2, h3, _⟩ := nil_eqIn (P := P) ok 9999 hx hy he
      have h1 : (Op.equal t cx cy).run P w = .ok b w := h1
      rw [h2, Result.andThen_ok, h3, h1]
      exact ⟨_, rfl, good_here h (.bool _) hw⟩
    · rename_i b he
      obtain ⟨h1, h2, _, h3⟩ := nil_eqIn (P := P) ok 9999 hx hy he
      have h1 : (Op.equal t cx cy).run P w = .ok b w := h1
      rw [h2, Result.andThen_ok, h3, h1]
      exact ⟨_, rfl, good_here h (.bool _) hw⟩
    · exact hw.elim

end Go.Proofs.QQ
end
