/- A part of the proof that XlatePolicy returns true at every argument: the reader machine and this translation under it. Conditions: those that each theorem bears. -/
import Derived.Test.YtcdjeickpdlbfaaGreatDoorQ05
import Derived.Laws.MakeOwn
import Derived.MapKept
import Derived.Lib.UnsafeStr
section
set_option linter.unusedVariables false
set_option linter.unusedSimpArgs false
namespace Go.Proofs.QQ
open Go

variable {P : Program} {T : Tab} {γ : Gh} {σ : St} {w : World} {K : AV → St → Prop}

theorem makeSlice_sound (ok : TabOk P T) (h : Rel T.glob γ σ w) {t : TypeId} {x y : AV} {cx cy : Value} (hx : VRel γ w x cx) (hy : VRel γ w y cy) (hw : wMakeSlice T t x y σ K) :
    ∃ cv w', (Instr.makeSlice t cx cy).run P w = .ok cv w' ∧ Good T γ σ.base w K cv w' := by
  unfold wMakeSlice at hw
  have htd := ok.td t
  split at hw
  case h_2 => exact hw.elim
  rename_i e k1 n k2 c hd
  obtain ⟨hne, hby, l, k, rfl, rfl, hlk, hk, hK⟩ := hw
  simp only [hd, TDok] at htd
  obtain ⟨i, z, hi, hsz, hb, hz, hzc, hzn, _⟩ := ok.size e hne
  cases hx; cases hy
  have hk1 : k ≤ 16777216 := Nat.le_trans (Nat.le_mul_of_pos_right k (by omega)) hk
  have hbk : i.bytes * k ≤ 4096 * 16777216 := Nat.mul_le_mul (by omega) hk1
  have hbk' : (i.bytes : Int) * (k : Int) ≤ 281474976710656 := by
    have : ((i.bytes * k : Nat) : Int) ≤ 281474976710656 := by omega
    rwa [Int.natCast_mul] at this
  have hrun := run_makeSlice (P := P) (w := w) t e i z htd hi hz k1 k2 (l : Int) (k : Int) (by omega) (by omega) (by rw [Int.toNat_natCast, hsz]; exact hk) hbk' (by omega)
  rw [Int.toNat_natCast, Int.toNat_natCast, hsz] at hrun
  obtain ⟨hzl, hzr⟩ := zero_rel (γ := γ) (w := w) hzc
  obtain ⟨h1, h2⟩ := reps_rel (T := T) (t := e) hzl hzr k (k * T.size e) (by rw [hzn, hsz])
  have h1' : (madeCells z.cells (k * T.size e)).size = (repA (zeroA T e) k).length := h1
  refine ⟨_, _, hrun, ?_⟩
  refine row_sound (mt := true) (full := false) (cells := repA (zeroA T e) k) h e k h1' h2 hlk (by simp) ?_ hK
  rw [size_madeCells]; exact Nat.le_refl _

/-- A new map, with nothing in it. -/
theorem makeMap_sound (h : Rel T.glob γ σ w) {t : TypeId} (hw : K (.mp σ.n) (σ.push (.map []) none)) :
    ∃ cv w', (Instr.makeMap t none).run P w = .ok cv w' ∧ Good T γ σ.base w K cv w' := by
  have hh : (w.alloc (.map #[] 0)).heap[w.heap.size]? = some (.map #[] 0) := by
    show (w.heap.push _)[w.heap.size]? = _
    simp
  obtain ⟨hst, hrel⟩ := push_rel h (Fresh.alloc w (.map #[] 0)) 0 True (.map []) none (fun u hu => by cases hu) σ.base (Array.getElem?_eq_some_iff.1 hh).1
    ⟨by simp [Gh.push], ⟨#[], 0, by simp only [Gh.push, if_true]; exact hh, rfl, fun i hi => absurd hi (Nat.not_lt_zero _), MapKept.stamped_empty 0⟩, fun i hi => by
      have : γ.prot w.heap.size i := by simpa [Gh.push] using hi
      have := h.protLt this
      omega⟩ (h.n ▸ h.base)
  refine ⟨_, _, rfl, .mp σ.n, _, _, .mp _ _ ?_ ?_ ?_, hst, hrel, rfl, hw⟩
  · simp [Gh.push, h.n]
  · simp [Gh.push, h.n]
  · simp [Gh.push, h.n]

theorem bytes_eq (a b : List UInt8) : ((⟨a.toArray⟩ : ByteArray) == ⟨b.toArray⟩) = (a == b) := by
  show (a.toArray == b.toArray) = (a == b)
  simp

/-- A key, by its type. -/
theorem key_cases (ok : TabOk P T) {kt : TypeId} {k : AV} {ck : Value} (hk : VRel γ w k ck) (hkey : keyA (T.td kt) k = true) :
    ∃ d, P.underlying kt = some d ∧ MapKept.IsKey d ck ∧ ∀ (k' : AV) (ck' : Value) (b : Bool), VRel γ w k' ck' → eqS k k' = some b → Instr.sameNow d ck ck' = some b := by
  have htd := ok.td kt
  unfold keyA at hkey
  split at hkey
  · rename_i kd k1 n hd
    simp only [hd, TDok] at htd
    cases hk
    have hkk := sameInt_eq hkey
    refine ⟨_, htd, by simp [MapKept.IsKey, hkk], fun k' ck' b hk' he => ?_⟩
    cases hk' <;> simp only [eqS] at he <;> try (cases he)
    split at he
    · rename_i hs
      cases he
      have := sameInt_eq hs
      subst this
      simp [Instr.sameNow]
    · cases he
  · rename_i s hd
    simp only [hd, TDok] at htd
    cases hk
    refine ⟨_, htd, by simp [MapKept.IsKey], fun k' ck' b hk' he => ?_⟩
    cases hk' <;> simp only [eqS] at he <;> try (cases he)
    simp only [Instr.sameNow, bytes_eq]
  · cases hkey

theorem find_rel {d : TypeDesc} {k : AV} {ck : Value} (hs : ∀ (k' : AV) (ck' : Value) (b : Bool), VRel γ w k' ck' → eqS k k' = some b → Instr.sameNow d ck ck' = some b) :
    ∀ (es : List (AV × AV)) (l : List MapEntry) (i : Nat) (r : Option (Nat × AV)), l.length = es.length → (∀ j (h : j < es.length) (h' : j < l.length), VRel γ w es[j].1 l[j].key ∧ VRel γ w es[j].2 l[j].val) → findA k es i = some r →
      (r = none ∧ Instr.findNow d ck l i = some none) ∨ ∃ n v cv, r = some (i + n, v) ∧ n < es.length ∧ Instr.findNow d ck l i = some (some (i + n, cv)) ∧ VRel γ w v cv
  | [], l, i, r, hl, hr, hf => by
    obtain rfl : l = [] := List.length_eq_zero_iff.1 hl
    simp only [findA, Option.some.injEq] at hf
    subst hf
    exact .inl ⟨rfl, rfl⟩
  | (k', v) :: es, l, i, r, hl, hr, hf => by
    cases l with
    | nil => simp at hl
    | cons e l =>
      have h0 := hr 0 (by simp) (by simp)
      simp only [List.getElem_cons_zero] at h0
      simp only [findA] at hf
      split at hf
      · rename_i he
        cases hf
        exact .inr ⟨0, v, e.val, rfl, by simp, by simp [Instr.findNow, hs _ _ _ h0.1 he], h0.2⟩
      · rename_i he
        rcases find_rel hs es l (i + 1) r (by simpa using hl) (fun j h h' => hr (j + 1) (by simpa using h) (by simpa using h')) hf with ⟨h1, h2⟩ | ⟨n, v', cv, h1, h2, h3, h4⟩
        · exact .inl ⟨h1, by simp [Instr.findNow, hs _ _ _ h0.1 he, h2]⟩
        · refine .inr ⟨n + 1, v', cv, by rw [h1]; congr 2; omega, by simp; omega, ?_, h4⟩
          simp only [Instr.findNow, hs _ _ _ h0.1 he, h3]
          congr 3; omega
      · cases hf

theorem Rel.map (h : Rel T.glob γ σ w) {o : Nat} {es : List (AV × AV)} (ho : o < γ.n) (hx : σ.at_ o = .map es) : ObjRel γ w o (.map es) := hx ▸ h.obj o ho

theorem entries (h : Rel T.glob γ σ w) {o : Nat} {es : List (AV × AV)} (ho : o < γ.n) (hx : σ.at_ o = .map es) :
    γ.fix o ∧ (∀ i, ¬ γ.prot (γ.blk o) i) ∧ ∃ (ms : Array MapEntry) (clock : Nat), w.heap[γ.blk o]? = some (.map ms clock) ∧ ms.toList.length = es.length ∧
      (∀ j (h : j < es.length) (h' : j < ms.toList.length), VRel γ w es[j].1 ms.toList[j].key ∧ VRel γ w es[j].2 ms.toList[j].val) ∧ MapKept.Stamped ms clock := by
  obtain ⟨hf, ⟨ms, clock, hh, hl, hv, hst⟩, hp⟩ := Rel.map h ho hx
  refine ⟨hf, hp, ms, clock, hh, by simpa using hl, fun j h1 h2 => ?_, hst⟩
  have h3 : j < ms.size := by simpa using h2
  have := hv j h1
  simp only [Array.getD, h3, dif_pos] at this
  simpa using this

/-- A type's zero value, taken as one value. -/
theorem zero_val (ok : TabOk P T) {t : TypeId} (hne : T.size t ≠ 0) {Kv : AV → Prop} (hw : valA T t (zeroA T t) Kv) : ∃ v z, Kv v ∧ (∀ (γ : Gh) (w : World), VRel γ w v z) ∧ ∀ w : World, (zeroValue t).run P w = .ok z w := by
  obtain ⟨i, z, hi, hsz, hb, hz, hzc, hzn, hag⟩ := ok.size t hne
  have hrun : ∀ w : World, (zeroValue t).run P w = .ok z w := fun w => by simp [zeroValue, typeInfo, hi, hz]
  have hrel : ∀ (γ : Gh) (w : World), (zeroA T t).length = z.cells.size ∧ ∀ i (h : i < (zeroA T t).length), VRel γ w (zeroA T t)[i] (z.cells.getD i undef) := fun γ w => zero_rel hzc
  have hlen : (zeroA T t).length = T.size t := by rw [(hrel ⟨0, fun _ => 0, fun _ => 0, fun _ => False, fun _ => 0, fun _ _ => False⟩ default).1, hzn, hsz]
  unfold valA at hw
  have scal : (T.td t).agg = false → (∃ v rest, zeroA T t = v :: rest ∧ Kv v) → ∃ v z, Kv v ∧ (∀ (γ : Gh) (w : World), VRel γ w v z) ∧ ∀ w : World, (zeroValue t).run P w = .ok z w := by
    rintro h1 ⟨v, rest, hzz, hk⟩
    refine ⟨v, z, hk, fun γ w => ?_, hrun⟩
    have hr := (hrel γ w).2 0 (by rw [hzz]; simp)
    simp only [hzz, List.getElem_cons_zero] at hr
    have hzcell : z.cells = #[z] := by
      rw [h1] at hag
      cases z <;> first | rfl | simp [isAggV] at hag
    rw [hzcell] at hr
    exact hr
  have aggr : (T.td t).agg = true → Kv (.agg ((zeroA T t).take (T.size t))) → ∃ v z, Kv v ∧ (∀ (γ : Gh) (w : World), VRel γ w v z) ∧ ∀ w : World, (zeroValue t).run P w = .ok z w := by
    intro h1 hk
    refine ⟨_, z, hk, fun γ w => ?_, hrun⟩
    rw [h1] at hag
    cases z <;> simp [isAggV] at hag
    rename_i cs
    have := hrel γ w
    rw [List.take_of_length_le (by omega)]
    exact .agg _ cs this.1.symm this.2
  cases hd : T.td t <;> simp only [hd] at hw
  case arr => exact aggr (by simp [hd, TD.agg]) hw.2.2
  case st => exact aggr (by simp [hd, TD.agg]) hw.2.2
  all_goals exact scal (by simp [hd, TD.agg]) (by cases hz0 : zeroA T t with | nil => rw [hz0] at hw; exact hw.elim | cons v r => rw [hz0] at hw; exact ⟨v, r, rfl, hw⟩)

theorem lookup_sound (ok : TabOk P T) (h : Rel T.glob γ σ w) {t : TypeId} {m k : AV} {cm ck : Value} {commaOk : Bool} (hm : VRel γ w m cm) (hk : VRel γ w k ck) (hw : wLookup T t m k commaOk σ K) :
    ∃ cv, (Instr.lookup t cm ck commaOk).run P w = .ok cv w ∧ Good T γ σ.base w K cv w := by
  unfold wLookup at hw
  have htd := ok.td t
  split at hw
  case h_2 => exact hw.elim
  rename_i kt et hd
  simp only [hd, TDok] at htd
  obtain ⟨hkey, hw⟩ := hw
  obtain ⟨d, hdk, hisk, hsame⟩ := key_cases ok hk hkey
  have fin : ∀ (l : List MapEntry) (es : List (AV × AV)) (r : Option (Nat × AV)), l.length = es.length → (∀ j (h : j < es.length) (h' : j < l.length), VRel γ w es[j].1 l[j].key ∧ VRel γ w es[j].2 l[j].val) → findA k es 0 = some r → wFound T et commaOk r σ K →
      ∃ cv, (do
        let (v, ok) ← match ← Instr.findKey kt ck l with
          | some (_, v) => pure (v, true)
          | none => pure (← zeroValue et, false)
        pure (if commaOk then .tuple #[v, .bool ok] else v) : Sem Value).run P w = .ok cv w ∧ Good T γ σ.base w K cv w := by
    intro l es r hl hr hf hw
    rcases find_rel hsame es l 0 r hl hr hf with ⟨rfl, h2⟩ | ⟨n, v, cv, rfl, h2, h3, h4⟩
    · have hrun := MapKept.run_findKey (P := P) (w := w) hdk h2
      obtain ⟨hne, hw⟩ := hw
      obtain ⟨v, z, hk, hrel, hz⟩ := zero_val (P := P) ok hne hw
      refine ⟨if commaOk = true then .tuple #[z, .bool false] else z, by simp only [Sem.run_bind, hrun, Result.andThen_ok, hz, Sem.run_pure], good_here h ?_ hk⟩
      cases commaOk
      · exact hrel γ w
      · refine .tup _ _ rfl fun i hi => ?_
        have hi2 : i < 2 := hi
        match i, hi2 with
        | 0, _ => exact hrel γ w
        | 1, _ => exact .bool false
    · have hrun := MapKept.run_findKey (P := P) (w := w) hdk h3
      refine ⟨if commaOk = true then .tuple #[cv, .bool true] else cv, by simp only [Sem.run_bind, hrun, Result.andThen_ok, Sem.run_pure], good_here h ?_ hw⟩
      cases commaOk
      · exact h4
      · refine .tup _ _ rfl fun i hi => ?_
        have hi2 : i < 2 := hi
        match i, hi2 with
        | 0, _ => exact h4
        | 1, _ => exact .bool true
  have hck : ∀ e : Bool, (Instr.checkKey e 10000 kt ck).run P w = .ok () w := fun e => MapKept.run_checkKey hdk hisk e 9999
  split at hw
  · cases hm
    obtain ⟨cv, hrun, hg⟩ := fin [] [] none rfl (fun j h => absurd h (by simp)) rfl hw
    refine ⟨cv, ?_, hg⟩
    rw [← hrun]
    simp only [Instr.lookup, Sem.run_bind, run_underlying htd, Result.andThen_ok, Sem.run_pure, hck]
    rfl
  · rename_i o
    obtain ⟨es, hlt, hx, hw⟩ := hw
    cases hm
    rename_i b ho hb hg
    subst hb
    split at hw
    case h_2 => exact hw.elim
    rename_i r hf
    obtain ⟨_, _, ms, clock, hh, hl, hv, _⟩ := entries h ho hx
    obtain ⟨cv, hrun, hg⟩ := fin ms.toList es r hl hv hf hw
    refine ⟨cv, ?_, hg⟩
    rw [← hrun]
    simp only [Instr.lookup, Sem.run_bind, run_underlying htd, Result.andThen_ok, Sem.run_pure, hck, MapKept.run_getObj_map hh]
    rfl
  · exact hw.elim

theorem key_same {a b : AV} {c d : Value} (ha : VRel γ w a c) (hb : VRel γ w b d) (h : eqS a b = some true) : c = d := by
  unfold eqS at h
  split at h
  · split at h
    · rename_i hs
      cases ha; cases hb
      rw [sameInt_eq hs, eq_of_beq (Option.some.inj h)]
    · cases h
  · cases ha; cases hb; rw [eq_of_beq (Option.some.inj h)]
  · cases ha; cases hb; rw [eq_of_beq (Option.some.inj h)]
  · cases h

theorem key_apart {a b : AV} {c d : Value} (ha : VRel γ w a c) (hb : VRel γ w b d) (h : eqS a b = some false) : c ≠ d := by
  unfold eqS at h
  split at h
  · split at h
    · cases ha; cases hb
      have := beq_eq_false_iff_ne.1 (Option.some.inj h)
      intro he; cases he; exact this rfl
    · cases h
  · cases ha; cases hb
    have := beq_eq_false_iff_ne.1 (Option.some.inj h)
    intro he; cases he; exact this rfl
  · cases ha; cases hb
    have := beq_eq_false_iff_ne.1 (Option.some.inj h)
    intro he
    injection he with he
    injection he with he
    exact this (by simpa using congrArg Array.toList he)
  · cases h

theorem findA_hit {k : AV} : ∀ (es : List (AV × AV)) (n : Nat) {i : Nat} {v : AV}, findA k es n = some (some (i, v)) → ∃ j, ∃ hj : j < es.length, i = n + j ∧ eqS k es[j].1 = some true
  | [], n, i, v, h => by simp [findA] at h
  | (k', v') :: es, n, i, v, h => by
    simp only [findA] at h
    split at h
    · rename_i he
      simp only [Option.some.injEq, Prod.mk.injEq] at h
      exact ⟨0, by simp, by omega, he⟩
    · obtain ⟨j, hj, h1, h2⟩ := findA_hit es (n + 1) h
      exact ⟨j + 1, Nat.succ_lt_succ hj, by omega, h2⟩
    · cases h

theorem findA_miss {k : AV} : ∀ (es : List (AV × AV)) (n : Nat), findA k es n = some none → ∀ p ∈ es, eqS k p.1 = some false
  | [], n, h => fun p hp => absurd hp (by simp)
  | (k', v') :: es, n, h => by
    simp only [findA] at h
    split at h
    · cases h
    · rename_i he
      intro p hp
      rcases List.mem_cons.1 hp with rfl | hp
      · exact he
      · exact findA_miss es (n + 1) h p hp
    · cases h

/-- A write into a map. -/
theorem write_map (h : Rel T.glob γ σ w) (base : Nat) {o : Nat} {es : List (AV × AV)} (ho : o < γ.n) (hb : base ≤ o) (hx : σ.at_ o = .map es) {ms' : Array MapEntry} {clock' : Nat} (es' : List (AV × AV)) (hl : ms'.size = es'.length)
    (hv : ∀ i (h : i < es'.length), VRel γ w es'[i].1 (ms'.getD i default).key ∧ VRel γ w es'[i].2 (ms'.getD i default).val) (hstamp : MapKept.Stamped ms' clock') :
    Step γ base w γ { w with heap := w.heap.setIfInBounds (γ.blk o) (.map ms' clock') } ∧ Rel T.glob γ (σ.set o (.map es')) { w with heap := w.heap.setIfInBounds (γ.blk o) (.map ms' clock') } := by
  obtain ⟨hf, hp, ms, clock, hh, _, _, _⟩ := entries h ho hx
  obtain ⟨h1, h2⟩ := MapKept.heap_set (o' := Go.Obj.map ms' clock') hh
  have f : Wrote (γ.blk o) w { w with heap := w.heap.setIfInBounds (γ.blk o) (.map ms' clock') } := ⟨rfl, rfl, rfl, by simp, fun b' hb' => h2 b' hb'⟩
  have e : Evo γ w γ { w with heap := w.heap.setIfInBounds (γ.blk o) (.map ms' clock') } := {
    n := Nat.le_refl _
    gen := fun _ _ => Nat.le_refl _
    same := fun _ _ _ => ⟨rfl, rfl⟩
    fix := fun _ _ h => ⟨h, rfl⟩
    prot := fun b i hp' => ⟨hp', by
      have hbb : b ≠ γ.blk o := fun he => hp i (he ▸ hp')
      simp only [World.cell?, f.other b hbb]⟩ }
  refine ⟨{ e with os := rfl, tape := rfl, output := rfl, size := Nat.le_of_eq f.size.symm, frame := fun b _ hne => f.other b fun he => hne o hb ho he.symm, old := fun _ _ _ => rfl, oldp := fun _ _ _ _ h => h, newp := fun _ _ h => .inl h, new := fun j _ hj => .inl ⟨hj, rfl⟩ }, ?_⟩
  exact {
    n := h.n, base := h.base
    obj := fun j hj => by
      by_cases hjo : j = o
      · subst hjo
        simp only [St.set, if_true]
        exact ⟨hf, ⟨ms', clock', h1, hl, fun i hi => ⟨(hv i hi).1.mono e, (hv i hi).2.mono e⟩, hstamp⟩, hp⟩
      · simp only [St.set, if_neg hjo]
        exact (h.obj j hj).other (fun he => hjo (h.inj j o hj ho he)) f e rfl rfl rfl Iff.rfl fun _ h => h
    inj := h.inj
    lt := fun j hj => by rw [f.size]; exact h.lt j hj
    prot := fun b i hp' => by rw [(e.prot b i hp').2]; exact h.prot b i hp'
    glob := fun g cells hg => (h.glob g cells hg).mono e
    ty := fun j t hj ht => by
      obtain ⟨c, fr, hc, hfo⟩ := h.ty j t hj ht
      by_cases hjo : j = o
      · subst hjo
        rw [hh] at hc
        cases hc
      · exact ⟨c, fr, (f.other _ fun he => hjo (h.inj j o hj ho he)).trans hc, hfo⟩ }

theorem same_bits {d : TypeDesc} {a b : Value} {n : Nat} (ha : MapKept.IsKey d a) (h : Instr.sameNow d a b = some true) : Instr.sameBits n b a = true := by
  unfold Instr.sameNow at h
  split at h
  · split at h
    · rename_i k x k' y hk
      subst hk
      have : x = y := by simpa using h
      subst this
      cases n <;> simp [Instr.sameBits]
    · cases h
  · have := Option.some.inj h
    have : ∀ (x y : ByteArray), (x == y) = true → (y == x) = true := fun x y hxy => by
      have h1 : (x.data == y.data) = true := hxy
      have h2 : x.data = y.data := by simpa using h1
      show (y.data == x.data) = true
      rw [h2]; simp
    cases n <;> simp [Instr.sameBits] <;> exact this _ _ (Option.some.inj h)
  · have := Option.some.inj h
    cases n <;> simp_all [Instr.sameBits]
  · cases h

theorem findNow_key {d : TypeDesc} {ck : Value} : ∀ (l : List MapEntry) (i n : Nat) (cv : Value), Instr.findNow d ck l i = some (some (n, cv)) → ∃ j e, n = i + j ∧ l[j]? = some e ∧ Instr.sameNow d ck e.key = some true
  | [], i, n, cv, h => by simp [Instr.findNow] at h
  | e :: l, i, n, cv, h => by
    simp only [Instr.findNow] at h
    split at h
    · rename_i he
      simp only [Option.some.injEq, Prod.mk.injEq] at h
      exact ⟨0, e, by omega, rfl, he⟩
    · obtain ⟨j, e', h1, h2, h3⟩ := findNow_key l (i + 1) n cv h
      exact ⟨j + 1, e', by omega, h2, h3⟩
    · cases h

theorem mapUpd_sound (ok : TabOk P T) (h : Rel T.glob γ σ w) {t : TypeId} {m k v : AV} {cm ck cv : Value} (hm : VRel γ w m cm) (hk : VRel γ w k ck) (hv : VRel γ w v cv) (hw : wMapUpd T t m k v σ K) :
    ∃ w', (Instr.mapUpdate t cm ck cv).run P w = .ok () w' ∧ Good T γ σ.base w K undef w' := by
  unfold wMapUpd at hw
  have htd := ok.td t
  split at hw
  case h_2 => exact hw.elim
  rename_i kt et o hd
  simp only [hd, TDok] at htd
  obtain ⟨hkey, es, hlt, hbase, hx, hw⟩ := hw
  obtain ⟨d, hdk, hisk, hsame⟩ := key_cases ok hk hkey
  cases hm
  rename_i b ho hb hg
  subst hb
  obtain ⟨_, _, ms, clock, hh, hl, hvv, hstamp⟩ := entries h ho hx
  have hck : ∀ e : Bool, (Instr.checkKey e 10000 kt ck).run P w = .ok () w := fun e => MapKept.run_checkKey hdk hisk e 9999
  have hl' : ms.size = es.length := by simpa using hl
  have hget : ∀ i (hi : i < es.length), VRel γ w es[i].1 (ms.getD i default).key ∧ VRel γ w es[i].2 (ms.getD i default).val := fun i hi => by
    have h3 : i < ms.size := by omega
    have := hvv i hi (by simpa using h3)
    simp only [Array.getD, h3, dif_pos]
    simpa using this
  split at hw
  case h_3 => exact hw.elim
  case h_1 i v0 hf =>
    rcases find_rel hsame es ms.toList 0 _ hl hvv hf with ⟨h1, _⟩ | ⟨n, v', cv', h1, h2, h3, h4⟩
    · cases h1
    simp only [Nat.zero_add, Option.some.injEq, Prod.mk.injEq] at h1 h3
    obtain ⟨rfl, _⟩ := h1
    obtain ⟨j, e, hj1, hj2, hj3⟩ := findNow_key ms.toList 0 i cv' h3
    simp only [Nat.zero_add] at hj1
    subst hj1
    have hms : ms[i]? = some e := by rw [← Array.getElem?_toList]; exact hj2
    have hstay : (Instr.keyThatStays (((ms[i]?).map (·.key)).getD ck) ck).run P w = .ok ck w := by
      simp only [hms, Option.map_some, Option.getD_some, Instr.keyThatStays, same_bits hisk hj3, if_true, Sem.run_pure]
    obtain ⟨hst, hrel⟩ := write_map h σ.base ho hbase hx (ms' := ms.modify i fun e => { e with key := ck, val := cv }) (clock' := clock) (es.set i (k, v)) (by simp [hl']) (fun p hp => by
      have hp' : p < es.length := by simpa using hp
      have hp3 : p < ms.size := by omega
      have hsz : p < (ms.modify i fun e => { e with key := ck, val := cv }).size := by simpa using hp3
      simp only [Array.getD, hsz, dif_pos, Array.getInternal_eq_getElem, Array.getElem_modify, List.getElem_set]
      by_cases hpi : i = p
      · simp only [hpi, if_true]
        exact ⟨hk, hv⟩
      · simp only [if_neg hpi]
        have := hget p hp'
        simpa only [Array.getD, hp3, dif_pos, Array.getInternal_eq_getElem] using this)
      (MapKept.stamped_modify hstamp i _ (fun _ _ => rfl) fun e' _ he' => by
        obtain ⟨j, hj, hji, hje⟩ := findA_hit es 0 hf
        obtain rfl : i = j := by omega
        have hij : i < ms.toList.length := by omega
        have h5 := (hvv i hj hij).1
        have h6 : ms.toList[i] = e' := by
          have : ms.toList[i]? = some e' := by rw [Array.getElem?_toList]; exact he'
          rw [List.getElem?_eq_getElem hij] at this
          exact Option.some.inj this
        rw [h6] at h5
        exact key_same hk h5 hje)
    refine ⟨_, ?_, undefA, _, γ, .undef, hst, hrel, rfl, hw⟩
    simp only [Instr.mapUpdate, Sem.run_bind, run_underlying htd, Result.andThen_ok, hck, MapKept.run_getObj_map hh, MapKept.run_findKey hdk h3, hstay]
    rw [MapKept.run_setObj_map _ hh]
  case h_2 hf =>
    rcases find_rel hsame es ms.toList 0 _ hl hvv hf with ⟨_, h2⟩ | ⟨n, v', cv', h1, _⟩
    case inr => cases h1
    obtain ⟨hst, hrel⟩ := write_map h σ.base ho hbase hx (ms' := ms.push { key := ck, val := cv, born := clock }) (clock' := clock + 1) (es ++ [(k, v)]) (by simp [hl']) (fun p hp => by
      have hsz : p < (ms.push { key := ck, val := cv, born := clock }).size := by simp at hp ⊢; omega
      simp only [Array.getD, hsz, dif_pos, Array.getInternal_eq_getElem, Array.getElem_push]
      by_cases hpi : p < ms.size
      · have hp' : p < es.length := by omega
        simp only [hpi, dif_pos, List.getElem_append_left hp']
        have := hget p hp'
        simpa only [Array.getD, hpi, dif_pos, Array.getInternal_eq_getElem] using this
      · have hp' : ¬ p < es.length := by omega
        simp only [hpi, dif_neg, not_false_eq_true]
        rw [List.getElem_append_right (by omega)]
        simp
        exact ⟨hk, hv⟩)
      (MapKept.stamped_push hstamp fun e' he' heq => by
        obtain ⟨i, hi, rfl⟩ := List.getElem_of_mem he'
        have hi' : i < es.length := by omega
        exact key_apart hk (hvv i hi' hi).1 (findA_miss es 0 hf _ (List.getElem_mem hi')) heq.symm)
    refine ⟨_, ?_, undefA, _, γ, .undef, hst, hrel, rfl, hw⟩
    simp only [Instr.mapUpdate, Sem.run_bind, run_underlying htd, Result.andThen_ok, hck, MapKept.run_getObj_map hh, MapKept.run_findKey hdk h2]
    rw [MapKept.run_setObj_map _ hh]

theorem range_part (f : Nat → Value) {m n : Nat} (h : m ≤ n) : ((List.range m).map f).toArray = (((List.range n).map f).toArray).extract 0 m := by
  apply Array.ext
  · simp; omega
  · intro i h1 h2
    simp

/-- What is read of a copy's source: as many as there is room for. -/
theorem src_part (ok : TabOk P T) (h : Rel T.glob γ σ w) {esz : Nat} {x : AV} {cx : Value} {Kx : Nat → List AV → Prop} (hx : VRel γ w x cx) (hw : srcA esz x σ Kx) :
    ∃ n xs, Kx n xs ∧ (Builtin.lenOf cx).run P w = .ok n w ∧ ∃ news : Array Value, (xs.length = news.size ∧ news.size = n * esz) ∧ (∀ i (h : i < xs.length), VRel γ w xs[i] (news.getD i undef)) ∧
      ∀ m, m ≤ n → (Builtin.firstCells esz m cx).run P w = .ok (news.extract 0 (m * esz)) w := by
  have rd : ∀ (b off : Nat) (f : Nat → Value) (r : List AV) (n : Nat) (len cap : Nat), r.length = n * esz → (∀ i, i < r.length → w.cell? ⟨b, off + i, none⟩ = some (f i)) → (∀ i (h : i < r.length), VRel γ w r[i] (f i)) →
      ∃ news : Array Value, (r.length = news.size ∧ news.size = n * esz) ∧ (∀ i (h : i < r.length), VRel γ w r[i] (news.getD i undef)) ∧
      ∀ m, m ≤ n → (Builtin.firstCells esz m (.slice (some ⟨b, off, none⟩) len cap)).run P w = .ok (news.extract 0 (m * esz)) w := by
    intro b off f r n len cap hl hc hr
    refine ⟨((List.range (n * esz)).map f).toArray, ⟨by simp [hl], by simp⟩, fun i hi => ?_, fun m hm => ?_⟩
    · have hi' : i < n * esz := by omega
      have := hr i hi
      simpa [Array.getD, hi'] using this
    · have hmn : m * esz ≤ n * esz := Nat.mul_le_mul_right _ hm
      have := run_loadCells (P := P) w ⟨b, off, none⟩ (m * esz) f (fun j hj => by
        rw [add_at]
        exact hc j (by omega))
      rw [← range_part f hmn]
      simpa [Builtin.firstCells] using this
  unfold srcA at hw
  split at hw
  case h_5 => exact hw.elim
  case h_1 =>
    cases hx
    exact ⟨0, [], hw, rfl, #[], ⟨rfl, by simp⟩, fun i hi => absurd hi (by simp), fun m hm => by
      obtain rfl : m = 0 := by omega
      simp [Builtin.firstCells]⟩
  case h_2 full n cells =>
    obtain ⟨r, hr, hl, hk⟩ := hw
    cases hx
    rename_i b off cap f hcap hfull hp hq hrr
    subst hr
    exact ⟨n, _, hk, rfl, rd b off f _ n n cap hl (fun i hi => (hp i (by simp at hi; omega)).2) fun i hi => by simp only [List.getElem_take]; exact hrr _ _⟩
  case h_3 s =>
    obtain ⟨rfl, hk⟩ := hw
    cases hx
    refine ⟨s.length, _, hk, rfl, (s.map fun b => Value.int .u8 (b.toNat : Int)).toArray, ⟨by simp, by simp⟩, fun i hi => ?_, fun m hm => ?_⟩
    · have hi' : i < s.length := by simpa using hi
      have : ((s.map fun b => Value.int .u8 (b.toNat : Int)).toArray).getD i undef = .int .u8 (s[i].toNat : Int) := by simp [Array.getD, hi']
      rw [this]
      simp only [List.getElem_map, byteA]
      exact .int _ _
    · simp only [Builtin.firstCells, Sem.run_pure, Nat.mul_one]
      congr 1
      apply Array.ext
      · simp [ByteArray.data_extract]
      · intro i h1 h2
        simp [ByteArray.data_extract]
  case h_4 o g off n esz' =>
    obtain ⟨rfl, cells, wm, r, ho, hrow, hr, hl, hk⟩ := hw
    cases hx
    rename_i a cap ho' hg hcap ha
    obtain ⟨hge, f, hc, hrr⟩ := h.cells ho hrow
    obtain ⟨rfl, hroom⟩ := ha hge.symm
    subst hr
    exact ⟨n, _, hk, rfl, rd (γ.blk o) off (fun i => f (off + i)) _ n n cap hl (fun i hi => hc _ (by simp at hi; omega)) fun i hi => by simp only [List.getElem_take, List.getElem_drop]; exact hrr _ _⟩

theorem copy_sound (ok : TabOk P T) (h : Rel T.glob γ σ w) {ts : Array TypeId} {t ty : TypeId} {args : Array Value} {x y : AV} {cx cy : Value} (ht : ts[0]? = some t) (h0 : args[0]? = some cx) (h1 : args[1]? = some cy) (hx : VRel γ w x cx) (hy : VRel γ w y cy) (hw : wCopy T t x y σ K) :
    ∃ cv w', (Builtin.copy_ ts ty args).run P w = .ok cv w' ∧ Good T γ σ.base w K cv w' := by
  unfold wCopy at hw
  have htd := ok.td t
  split at hw
  case h_2 => exact hw.elim
  rename_i e hd
  simp only [hd, TDok] at htd
  obtain ⟨hne, hw⟩ := hw
  obtain ⟨n, xs, hk, hlen, news, hnl, hnr, hfirst⟩ := src_part ok h hy hw
  split at hk
  case h_3 => exact hk.elim
  case h_1 =>
    cases hx
    refine ⟨.int .i64 0, w, ?_, good_here h (.int _ _) hk⟩
    simp only [Builtin.copy_, ht, h0, h1, Sem.run_bind, run_underlying htd, Result.andThen_ok, hlen, run_sizeOf ok hne]
    rw [show Nat.min n 0 = 0 from Nat.min_zero n, hfirst 0 (Nat.zero_le _)]
    rfl
  case h_2 o g off len esz =>
    obtain ⟨rfl, k, rfl, hk⟩ := hk
    cases hx
    rename_i a cap ho hg hcap ha
    have hrun0 : ∀ w' (cells : Array Value), (Builtin.firstCells (T.size e) (min n len) cy).run P w = .ok cells w → (storeCells a cells.toList).run P w = .ok () w' →
        (Builtin.copy_ ts ty args).run P w = .ok (goInt ((min n len : Nat) : Int)) w' := fun w' cells hc hs => by
      simp only [Builtin.copy_, ht, h0, h1, Sem.run_bind, run_underlying htd, Result.andThen_ok, hlen, run_sizeOf ok hne]
      have hc' : (Builtin.firstCells (T.size e) (Nat.min n len) cy).run P w = .ok cells w := hc
      simp only [hc', Result.andThen_ok, hs, Sem.run_pure]
    rcases hk with ⟨hk0, hk⟩ | ⟨hpos, hone, cells, wm, r, hlt, hbase, hrow, hwm, hfit, hr, hk⟩
    · have hf0 := hfirst (min n len) (Nat.min_le_left _ _)
      rw [hk0, Nat.zero_mul] at hf0
      refine ⟨_, w, hrun0 w _ (by rw [hk0]; exact hf0) ?_, good_here h ?_ hk⟩
      · simp [storeCells]
      · rw [hk0]; exact .int _ _
    · obtain ⟨⟨hge, hnf⟩, c, el, fr, hh, hcs, hl, hvr, hf, hp⟩ := h.row ho hrow
      obtain ⟨rfl, hroom⟩ := ha hge
      have hf1 := hfirst (min n len) (Nat.min_le_left _ _)
      have hxl : xs.length = news.size := hnl.1
      have hnsz : news.size = n * T.size e := hnl.2
      have hkn : min n len * T.size e ≤ n * T.size e := Nat.mul_le_mul_right _ (Nat.min_le_left _ _)
      have hrl : r.length = min n len * T.size e := by rw [← hr, List.length_take]; omega
      have hel : (news.extract 0 (min n len * T.size e)).size = min n len * T.size e := by simp; omega
      have hrr : ∀ i (h : i < r.length), VRel γ w r[i] ((news.extract 0 (min n len * T.size e)).getD i undef) := fun i hi => by
        have hi2 : i < (news.extract 0 (min n len * T.size e)).size := by omega
        have hi3 : i < news.size := by omega
        have := hnr i (by omega)
        simp only [Array.getD, hi2, hi3, dif_pos, Array.getInternal_eq_getElem, Array.getElem_extract, Nat.zero_add] at this ⊢
        subst hr
        simpa only [List.getElem_take] using this
      have hro : ∀ u ∈ (news.extract 0 (min n len * T.size e)).toList, u.oneCell' = true := ones (xs := r) (by omega) hrr (by
        subst hr
        exact List.all_eq_true.2 fun u hu => List.all_eq_true.1 hone u (List.mem_of_mem_take hu))
      obtain ⟨w', c', hst, hwr, hh', hs', hc'⟩ := run_stores (P := P) (γ.blk o) el fr (news.extract 0 (min n len * T.size e)).toList off 0 c w hh (by rw [Array.length_toList]; omega) (fun j hm => hf j (by omega)) hro
      have hgetc : ∀ i, i < c.size → c'.getD i undef = if off ≤ i ∧ i < off + r.length then (news.extract 0 (min n len * T.size e)).getD (i - off) undef else c.getD i undef := by
        intro i hi
        have := hc' i
        simp only [Nat.add_zero, Array.length_toList, hel, Array.getElem?_toList] at this
        rw [hrl]
        simp only [Array.getD_eq_getD_getElem?, this]
        split <;> rfl
      have hpl : off + r.length ≤ cells.length := by omega
      obtain ⟨hstep, hrel⟩ := write_row' h σ.base wm (Nat.le_refl _) ho hbase hrow hh hwr hh' hs' (fun i hi => by rw [hc' i, if_neg (by omega)]) (FrOk.same hs') (fun i hm hi => by
          have h1 := hf i hm (by omega)
          simp only [World.frozen?, hh, hh'] at h1 ⊢
          exact h1) (put cells off r) (by rw [put_length hpl]; omega) (fun i hi => by
          have hi2 : i < cells.length := by rw [put_length hpl] at hi; exact hi
          rw [put_get hpl hi hi2, hgetc i (by omega)]
          by_cases h1 : off ≤ i ∧ i < off + r.length
          · rw [dif_pos h1, if_pos h1]; exact hrr _ _
          · rw [dif_neg h1, if_neg h1]; exact hvr _ _)
      exact ⟨_, w', hrun0 w' _ hf1 hst, _, _, γ, .int _ _, hstep, hrel, rfl, hk⟩

theorem unsafeString_sound (ok : TabOk P T) (h : Rel T.glob γ σ w) {pt it ty : TypeId} {x y : AV} {cx cy : Value} (hx : VRel γ w x cx) (hy : VRel γ w y cy) (hw : wUnsafeString T pt x y σ K) :
    ∃ cv w', (Builtin.unsafeString_ #[pt, it] ty #[cx, cy]).run P w = .ok cv w' ∧ Good T γ σ.base w K cv w' := by
  unfold wUnsafeString at hw
  split at hw
  case h_3 => exact hw.elim
  case h_2 n =>
    obtain ⟨rfl, hk⟩ := hw
    cases hx; cases hy
    exact ⟨_, w, Lib.run_unsafeString_none (P := P) w pt it ty none, good_here h (.str []) hk⟩
  case h_1 o g off n =>
    obtain ⟨k, rfl, hmax, hw⟩ := hw
    cases hx; cases hy
    rename_i a ho hg ha
    rcases hw with ⟨rfl, hk⟩ | ⟨hpos, rfl, cells, wm, s, e, hlt, hbase, hrow, hty, hd, hsz, hs, hsl, hk⟩
    · exact ⟨_, w, Lib.run_unsafeString_none (P := P) w pt it ty (some a), good_here h (.str []) hk⟩
    · obtain ⟨⟨hge, hnf⟩, c, el, fr, hh, hcs, hl, hvr, hf, hp⟩ := h.row ho hrow
      obtain rfl := ha hge
      obtain ⟨c2, fr2, hh2, hfo⟩ := h.ty o e ho hty
      rw [hh] at hh2
      injection hh2 with hh2
      injection hh2 with e1 e2 e3
      subst e1 e2 e3
      have htd : P.underlying pt = some (.pointer el) := by have := ok.td pt; simpa only [hd, TDok] using this
      have hc : P.cellsOf el = 1 := by
        obtain ⟨i, z, hi, hsz', _⟩ := ok.size el (by omega)
        simp [Program.cellsOf, hi, hsz', hsz]
      have hkc : k ≤ cells.length := by
        have := congrArg List.length hs
        simp at this; omega
      subst hsl
      have hcell : ∀ j (x : UInt8), s[j]? = some x → w.cell? ((⟨γ.blk o, 0, none⟩ : Addr).add j) = some (.int .u8 x.toNat) := fun j x hj => by
        obtain ⟨hj1, hj2⟩ := List.getElem?_eq_some_iff.1 hj
        have hjc : j < c.size := by omega
        have hb := bytes_of (cells := cells.take s.length) (f := fun i => c.getD i undef) (fun i hi => by simp only [List.getElem_take]; exact hvr _ _) hs j hj1
        rw [add_at, Nat.zero_add]
        simp only [Array.getD, hjc, dif_pos, Array.getInternal_eq_getElem] at hb
        simp only [World.cell?, hh]
        simp [hjc, hb, hj2]
      have hrun := Lib.run_unsafeString_row (P := P) w pt it ty el htd hc (γ.blk o) c.size (by simp [World.shape?, hh]) s (by intro he; simp [he] at hpos) (by omega) (by omega) hcell
      have hk0 : s.length ≠ 0 := by omega
      have hh' : (w.freeze ⟨γ.blk o, 0, none⟩ s.length).heap[γ.blk o]? = some (.cells c el (if fr.1 == fr.2 then (0, 0 + s.length) else (min fr.1 0, max fr.2 (0 + s.length)))) := by
        obtain ⟨lo, hi⟩ := fr
        simp [World.freeze, hk0, Array.getElem?_modify, hh]
      have hwr : Wrote (γ.blk o) w (w.freeze ⟨γ.blk o, 0, none⟩ s.length) := by
        refine ⟨?_, ?_, ?_, ?_, fun b' hb' => ?_⟩
        · simp [World.freeze, hk0]
        · simp [World.freeze, hk0]
        · simp [World.freeze, hk0]
        · simp [World.freeze, hk0]
        · simp only [World.freeze, hk0, if_false, Array.getElem?_modify]
          rw [if_neg (fun e => hb' e.symm)]
      obtain ⟨hst, hrel⟩ := write_row' h σ.base (max wm s.length) (Nat.le_max_left _ _) ho hbase hrow hh hwr hh' rfl (fun _ _ => rfl) (fun _ => by
          have : 0 < c.size := by omega
          unfold FrOk
          split
          · right; simp; omega
          · right; simp; omega) (fun i hm hi => by
          simp only [World.frozen?, hh']
          have hold := hf
          split
          · simp; omega
          · rename_i hne
            have hne' : fr.1 ≠ fr.2 := by simpa using hne
            rcases hfo with h1 | ⟨h1, h2⟩
            · exact absurd h1 hne'
            · have hlo : fr.1 < wm := by
                rcases Nat.lt_or_ge fr.1 wm with h3 | h3
                · exact h3
                · have := hf fr.1 h3 h2
                  simp [World.frozen?, hh] at this
                  omega
              have := hf i (by omega) hi
              simp [World.frozen?, hh] at this
              simp
              omega) cells hl hvr
      exact ⟨_, _, hrun, .str s, _, γ, .str s, hst, hrel, rfl, hk⟩

end Go.Proofs.QQ
end
