/- A part of the proof that XlatePolicy returns true at every argument: the reader machine and this translation under it. Conditions: those that each theorem bears. -/
import Derived.Test.YtcdjeickpdlbfaaGreatDoorQ06
section
set_option linter.unusedVariables false
set_option linter.unusedSimpArgs false
namespace Go.Proofs.QQ
open Go

variable {P : Program} {T : Tab} {γ : Gh} {σ : St} {w : World} {K : AV → St → Prop}

theorem args_rel {e : Env} {N : Nat} {a : Act} (h : Rel T.glob γ σ w) (he : EnvRel γ w e N a) (l : Array Operand) :
    (l.map a.eval).size = (l.toList.map (ev T e N)).length ∧ ∀ i (h : i < (l.toList.map (ev T e N)).length), VRel γ w (l.toList.map (ev T e N))[i] ((l.map a.eval).getD i undef) := by
  refine ⟨by simp, fun i hi => ?_⟩
  have hi' : i < l.size := by simpa using hi
  have : (l.map a.eval).getD i undef = a.eval l[i] := by simp [Array.getD, hi']
  rw [this]
  simp only [List.getElem_map, Array.getElem_toList]
  exact ev_rel h he _

theorem list_one {ts : Array TypeId} {t : TypeId} {r : List TypeId} (h : ts.toList = t :: r) : ts[0]? = some t := by rw [← Array.getElem?_toList, h]; rfl

theorem len_sound (ok : TabOk P T) (h : Rel T.glob γ σ w) {ts : Array TypeId} {t : TypeId} {args : Array Value} {x : AV} {cx : Value} {n : Nat} (hx : VRel γ w x cx) (ht : ts[0]? = some t) (ha : args[0]? = some cx) (hl : lenA σ (T.td t) x = some n) (ty : TypeId) :
    (Builtin.len_ ts ty args).run P w = .ok (.int .i64 (n : Int)) w := by
  have htd := ok.td t
  unfold lenA at hl
  split at hl
  case h_7 => cases hl
  case h_2 hd =>
    cases hl
    simp only [hd, TDok] at htd
    simp [Builtin.len_, ht, ha, run_underlying htd, Result.andThen, goInt]
  case h_1 s hd =>
    cases hl
    simp only [hd, TDok] at htd
    cases hx
    have hsz : (⟨s.toArray⟩ : ByteArray).size = s.length := by simp [ByteArray.size]
    simp [Builtin.len_, ht, ha, run_underlying htd, Result.andThen, goInt, hsz]
  all_goals
    cases hl
    rename_i hd
    simp only [hd, TDok] at htd
    cases hx
    simp [Builtin.len_, ht, ha, run_underlying htd, Result.andThen, goInt]

theorem less_sound {ismax : Bool} {args : List AV} {cargs : Array Value} {v : AV} (hs : cargs.size = args.length) (hr : ∀ i (h : i < args.length), VRel γ w args[i] (cargs.getD i undef)) (hw : wLess ismax args = some v) :
    ∃ cv, VRel γ w v cv ∧ ((if ismax then Builtin.max_ #[] 0 cargs else Builtin.min_ #[] 0 cargs) : Sem Value).run P w = .ok cv w := by
  unfold wLess at hw
  split at hw
  case h_2 => cases hw
  rename_i k a k' b
  split at hw
  case isFalse => cases hw
  rename_i hk
  obtain rfl := sameInt_eq hk
  cases hw
  have h0 := hr 0 (by simp)
  have h1 := hr 1 (by simp)
  simp only [List.getElem_cons_zero, List.getElem_cons_succ] at h0 h1
  generalize e0 : cargs.getD 0 undef = v0 at h0
  generalize e1 : cargs.getD 1 undef = v1 at h1
  cases h0; cases h1
  have hc : cargs = #[.int k a, .int k b] := by
    have hs2 : cargs.size = 2 := by simpa using hs
    apply Array.ext
    · simp [hs2]
    · intro i hi1 hi2
      have : i = 0 ∨ i = 1 := by simp at hi2; omega
      rcases this with rfl | rfl
      · simpa [Array.getD, hs2] using e0
      · simpa [Array.getD, hs2] using e1
  subst hc
  cases ismax
  · exact ⟨_, .int _ _, by simp [Builtin.min_, Builtin.min2]⟩
  · exact ⟨_, .int _ _, by simp [Builtin.max_, Builtin.max2]⟩


theorem array_one {a : Array Value} (h : a.size = 1) : ∃ x, a = #[x] := by
  obtain ⟨l⟩ := a
  obtain ⟨x, rfl⟩ := List.length_eq_one_iff.1 h
  exact ⟨x, rfl⟩
theorem array_two {a : Array Value} (h : a.size = 2) : ∃ x y, a = #[x, y] := by
  obtain ⟨l⟩ := a
  match l, h with
  | [x, y], _ => exact ⟨x, y, rfl⟩

theorem builtin_sound (ok : TabOk P T) (h : Rel T.glob γ σ w) {b : Builtin} {ts : Array TypeId} {args : List AV} {cargs : Array Value} (hs : cargs.size = args.length)
    (hr : ∀ i (h : i < args.length), VRel γ w args[i] (cargs.getD i undef)) (ty : TypeId) (consts : Array Bool) (hw : wBuiltin T b ts.toList args σ K) :
    CallRes P (Good T γ σ.base w K) ((builtin b ts ty consts cargs).run P w) := by
  unfold wBuiltin at hw
  have at0 : ∀ {x : AV} {r : List AV}, args = x :: r → ∃ cx, cargs[0]? = some cx ∧ VRel γ w x cx := fun {x r} he => by
    subst he
    have h1 : 0 < cargs.size := by rw [hs]; simp
    exact ⟨cargs.getD 0 undef, by simp [Array.getD, h1], hr 0 (by simp)⟩
  have at1 : ∀ {x y : AV} {r : List AV}, args = x :: y :: r → ∃ cy, cargs[1]? = some cy ∧ VRel γ w y cy := fun {x y r} he => by
    subst he
    have h1 : 1 < cargs.size := by rw [hs]; simp
    exact ⟨cargs.getD 1 undef, by simp [Array.getD, h1], hr 1 (by simp)⟩
  split at hw
  case h_11 => exact hw.elim
  case h_1 t tr o xr hts =>
    obtain ⟨⟨k, e, hd⟩, es, hlt, hx, hw⟩ := hw
    obtain ⟨cx, hcx, hxr⟩ := at0 rfl
    cases hxr
    rename_i b ho hb hg
    subst hb
    obtain ⟨_, _, ms, clock, hh, hl, _, _⟩ := entries h ho hx
    have htd : P.underlying t = some (.map k e) := by have := ok.td t; simpa only [hd, TDok] using this
    have hl' : ms.size = es.length := by simpa using hl
    have : (Builtin.len_ ts ty cargs).run P w = .ok (goInt (es.length : Int)) w := by
      simp only [Builtin.len_, list_one hts, hcx, Sem.run_bind, run_underlying htd, Result.andThen_ok, MapKept.run_getObj_map hh, Sem.run_pure, hl']
    simp only [builtin, Sem.run_bind, this, Result.andThen_ok, Sem.run_pure, CallRes]
    exact good_here h (.int _ _) hw
  case h_2 t tr xr hts =>
    obtain ⟨⟨e, hd⟩, hw⟩ := hw
    obtain ⟨cx, hcx, hxr⟩ := at0 rfl
    cases hxr
    have htd : P.underlying t = some (.slice e) := by have := ok.td t; simpa only [hd, TDok] using this
    have : (Builtin.cap_ ts ty cargs).run P w = .ok (goInt 0) w := by
      simp only [Builtin.cap_, list_one hts, hcx, Sem.run_bind, run_underlying htd, Result.andThen_ok, Sem.run_pure]
      rfl
    simp only [builtin, Sem.run_bind, this, Result.andThen_ok, Sem.run_pure, CallRes]
    exact good_here h (.int _ _) hw
  case h_3 t tr d x xr hts =>
    obtain ⟨cx, hcx, hxr⟩ := at0 rfl
    obtain ⟨cy, hcy, hyr⟩ := at1 rfl
    obtain ⟨cv, w', hrun, hg⟩ := copy_sound (P := P) (ty := ty) ok h (list_one hts) hcx hcy hxr hyr hw
    simp only [builtin, Sem.run_bind, hrun, Result.andThen_ok, Sem.run_pure, CallRes]
    exact hg
  case h_4 =>
    have hsz : cargs.size = 1 := by rw [hs]; rfl
    obtain ⟨cx, rfl⟩ := array_one hsz
    have hxr := hr 0 (by simp)
    simp at hxr
    cases hxr
    have : (Builtin.unsafeSliceData_ ts ty #[.slice none 0 0]).run P w = .ok (.pointer none) w := rfl
    simp only [builtin, Sem.run_bind, this, Result.andThen_ok, Sem.run_pure, CallRes]
    exact good_here h .nilp hw
  case h_5 o g off len esz =>
    obtain ⟨hpos, hw⟩ := hw
    have hsz : cargs.size = 1 := by rw [hs]; rfl
    obtain ⟨cx, rfl⟩ := array_one hsz
    have hxr := hr 0 (by simp)
    simp at hxr
    cases hxr
    rename_i a cap ho hg hcap ha
    have := Lib.run_unsafeSliceData_row (P := P) w ts ty a len cap (by omega)
    simp only [builtin, Sem.run_bind, this, Result.andThen_ok, Sem.run_pure, CallRes]
    exact good_here h (.ptr _ _ _ _ ho hg fun he => (ha he).1) hw
  case h_6 pt tr p n hts =>
    have hsz : cargs.size = 2 := by rw [hs]; rfl
    obtain ⟨cx, cy, rfl⟩ := array_two hsz
    have hx0 := hr 0 (by simp)
    have hx1 := hr 1 (by simp)
    simp at hx0 hx1
    obtain ⟨cv, w', hrun, hg⟩ := unsafeString_sound (P := P) (it := pt) (ty := ty) ok h hx0 hx1 hw
    have hrun' : (Builtin.unsafeString_ ts ty #[cx, cy]).run P w = .ok cv w' := by
      rw [← hrun]
      have h0 : ts[0]? = some pt := list_one hts
      delta Builtin.unsafeString_
      rw [h0]
      rfl
    simp only [builtin, Sem.run_bind, hrun', Result.andThen_ok, Sem.run_pure, CallRes]
    exact hg
  case h_7 t tr x xr hts =>
    split at hw
    case h_2 => exact hw.elim
    rename_i n hn
    obtain ⟨cx, hcx, hx⟩ := at0 rfl
    have := len_sound (P := P) ok h hx (list_one hts) hcx hn ty
    simp only [builtin, Sem.run_bind, this, Result.andThen_ok, Sem.run_pure, CallRes]
    exact good_here h (.int _ _) hw
  case h_8 t u tr s x xr hts =>
    obtain ⟨hu, hw⟩ := hw
    have hsz : 1 < cargs.size := by rw [hs]; simp
    have ht0 : ts[0]? = some t := list_one hts
    have ht1 : ts[1]? = some u := by rw [← Array.getElem?_toList, hts]; rfl
    have hv0 := hr 0 (by simp)
    have hv1 := hr 1 (by simp)
    simp only [List.getElem_cons_zero, List.getElem_cons_succ] at hv0 hv1
    obtain ⟨cv, w', hrun, hg⟩ := append_sound (P := P) ok h hv0 hv1 hu ty hw
    have hrun' : (Builtin.append_ ts ty cargs).run P w = .ok cv w' := by
      rw [← hrun]
      have g0 : cargs[0]? = some (cargs.getD 0 undef) := by simp [Array.getD, show 0 < cargs.size by omega]
      have g1 : cargs[1]? = some (cargs.getD 1 undef) := by simp [Array.getD, hsz]
      simp only [Builtin.append_, ht0, ht1, g0, g1, List.getElem?_toArray, List.getElem?_cons_zero, List.getElem?_cons_succ]
    simp only [builtin, Sem.run_bind, hrun', Result.andThen_ok, Sem.run_pure, CallRes]
    exact hg
  case h_9 =>
    split at hw
    case h_2 => exact hw.elim
    rename_i v hv
    obtain ⟨cv, hrel, hrun⟩ := less_sound (P := P) hs hr hv
    have hrun' : (Builtin.max_ ts ty cargs).run P w = .ok cv w := hrun
    simp only [builtin, Sem.run_bind, hrun', Result.andThen_ok, Sem.run_pure, CallRes]
    exact good_here h hrel hw
  case h_10 =>
    split at hw
    case h_2 => exact hw.elim
    rename_i v hv
    obtain ⟨cv, hrel, hrun⟩ := less_sound (P := P) hs hr hv
    have hrun' : (Builtin.min_ ts ty cargs).run P w = .ok cv w := hrun
    simp only [builtin, Sem.run_bind, hrun', Result.andThen_ok, Sem.run_pure, CallRes]
    exact good_here h hrel hw

theorem getD_append_left {a b : Array Value} {i : Nat} (h : i < a.size) : (a ++ b).getD i undef = a.getD i undef := by
  simp only [Array.getD_eq_getD_getElem?, Array.getElem?_append, if_pos h]
theorem getD_append_right {a b : Array Value} {i : Nat} (h : a.size ≤ i) : (a ++ b).getD i undef = b.getD (i - a.size) undef := by
  simp only [Array.getD_eq_getD_getElem?, Array.getElem?_append, if_neg (Nat.not_lt.2 h)]

theorem rel_append {xs ys : List AV} {a b : Array Value} (h1 : a.size = xs.length) (h2 : b.size = ys.length) (r1 : ∀ i (h : i < xs.length), VRel γ w xs[i] (a.getD i undef)) (r2 : ∀ i (h : i < ys.length), VRel γ w ys[i] (b.getD i undef)) :
    (a ++ b).size = (xs ++ ys).length ∧ ∀ i (h : i < (xs ++ ys).length), VRel γ w (xs ++ ys)[i] ((a ++ b).getD i undef) := by
  refine ⟨by simp [h1, h2], fun i hi => ?_⟩
  by_cases hlt : i < xs.length
  · rw [getD_append_left (by omega), List.getElem_append_left hlt]; exact r1 _ _
  · rw [getD_append_right (by omega), List.getElem_append_right (by omega)]
    simp only [h1]
    exact r2 _ _

theorem call_sound (ok : TabOk P T) (h : Rel T.glob γ σ w) {e : Env} {N : Nat} {a : Act} (he : EnvRel γ w e N a) {c : Call} (ty : TypeId) (hw : wCall P T c e N σ K) :
    CallRes P (Good T γ σ.base w K) ((do let d ← resolve a.eval c ty; invoke d.target d.args : Sem Next).run P w) := by
  obtain ⟨hal, har⟩ := args_rel h he c.args
  unfold wCall at hw
  split at hw
  case h_1 f hc =>
    split at hw
    case h_2 => exact hw.elim
    rename_i g first captured hf
    have hv := ev_rel h he f
    rw [hf] at hv
    generalize hcf : a.eval f = cf at hv
    cases hv
    rename_i c1 c2 h1 r1 h2 r2
    have hr : (do let d ← resolve a.eval c ty; invoke d.target d.args : Sem Next).run P w = (callFunc g ((c1 ++ c.args.map a.eval) ++ c2)).run P w := by
      simp only [Sem.run_bind, resolve, hc, hcf, Deferred.ofValue, Sem.run_pure, Result.andThen_ok, invoke]
    rw [hr]
    obtain ⟨k1, k2⟩ := rel_append h1 hal r1 har
    obtain ⟨k3, k4⟩ := rel_append k1 h2 k2 r2
    exact hw γ w _ h k3 k4
  case h_2 r name hc =>
    split at hw
    case h_2 => exact hw.elim
    rename_i t v hf
    split at hw
    case h_2 => exact hw.elim
    rename_i g hm
    have hv := ev_rel h he r
    rw [hf] at hv
    generalize hcf : a.eval r = cf at hv
    cases hv
    rename_i cv hcv
    have hmeth := ok.meth t name g hm cv w
    have hr : (do let d ← resolve a.eval c ty; invoke d.target d.args : Sem Next).run P w = (callFunc g (#[cv] ++ c.args.map a.eval)).run P w := by
      simp only [Sem.run_bind, resolve, hc, hcf, Sem.run_pure, Result.andThen_ok, invoke]
      have e0 : (#[Value.iface t cv] ++ c.args.map a.eval)[0]? = some (.iface t cv) := by
        rw [Array.getElem?_append_left (by simp)]; rfl
      have e1 : (#[Value.iface t cv] ++ c.args.map a.eval).extract 1 (#[Value.iface t cv] ++ c.args.map a.eval).size = c.args.map a.eval := by
        apply Array.ext'
        simp
        exact List.take_of_length_le (by simp)
      simp only [e0, e1, callMethod, Sem.run_bind, run_program, Result.andThen_ok, hmeth]
    rw [hr]
    obtain ⟨k1, k2⟩ := rel_append (xs := [v]) (a := #[cv]) rfl hal (fun i hi => by
      have : i = 0 := by simpa using hi
      subst this
      exact hcv) har
    exact hw γ w _ h k1 k2
  case h_3 b hc =>
    have hr : (do let d ← resolve a.eval c ty; invoke d.target d.args : Sem Next).run P w = (builtin b c.argTypes ty (c.args.map fun | .const _ => true | _ => false) (c.args.map a.eval)).run P w := by
      simp only [Sem.run_bind, resolve, hc, Sem.run_pure, Result.andThen_ok, invoke]
      rfl
    rw [hr]
    exact builtin_sound ok h hal har ty _ hw

theorem of_value {s : Sem Value} {G : Value → World → Prop} (h : ∃ cv w', s.run P w = .ok cv w' ∧ G cv w') : CallRes P G ((do pure (Next.value (← s)) : Sem Next).run P w) := by
  obtain ⟨cv, w', hr, hg⟩ := h
  simp only [Sem.run_bind, hr, Result.andThen_ok, Sem.run_pure, CallRes]
  exact hg
theorem of_value' {s : Sem Value} {G : Value → World → Prop} (h : ∃ cv, s.run P w = .ok cv w ∧ G cv w) : CallRes P G ((do pure (Next.value (← s)) : Sem Next).run P w) :=
  of_value ⟨h.choose, w, h.choose_spec⟩

/-- An operation is sound. -/
theorem op_sound (ok : TabOk P T) (pe : PeqOk P T) (h : Rel T.glob γ σ w) {e : Env} {N : Nat} {a : Act} (he : EnvRel γ w e N a) {mt : Bool} {o : Oper} (hw : wOp P T mt o.op e N σ K) :
    CallRes P (Good T γ σ.base w K) ((execOp a.eval o).run P w) := by
  obtain ⟨dst, op, ty, pos, after, guard⟩ := o
  simp only at hw
  cases op <;> simp only [wOp] at hw <;> simp only [execOp]
  case move x => exact good_here h (ev_rel h he x) hw
  case assign x => exact good_here h (ev_rel h he x) hw
  case pick c x y =>
    split at hw
    case h_3 => exact hw.elim
    all_goals
      rename_i hc
      have hv := ev_rel h he c
      rw [hc] at hv
      generalize hcc : a.eval c = cc at hv
      cases hv
      simp only [Sem.run_bind, asBool, Sem.run_pure, Result.andThen_ok, CallRes]
    · exact good_here h (ev_rel h he x) hw
    · exact good_here h (ev_rel h he y) hw
  case alloc t => exact of_value (alloc_sound ok h hw)
  case box t x =>
    split at hw
    case h_2 => exact hw.elim
    rename_i cells hc
    exact of_value (box_sound h (ev_rel h he x) hc hw)
  case build t parts =>
    obtain ⟨cv, hr, hg⟩ := build_sound (P := P) ok h he hw
    exact of_value' ⟨cv, hr, hg⟩
  case buildSlice t n parts =>
    obtain ⟨cv, w', hr, hg⟩ := buildSlice_sound (P := P) ok h he hw
    exact of_value ⟨cv, w', hr, hg⟩
  case load t x => exact of_value' (load_sound ok h (ev_rel h he x) hw)
  case store t x v =>
    obtain ⟨w', hr, hg⟩ := store_sound (P := P) ok h (ev_rel h he x) (ev_rel h he v) hw
    simp only [Sem.run_bind, hr, Result.andThen_ok, Sem.run_pure, CallRes]
    exact hg
  case nilCheck x =>
    obtain ⟨hr, hk⟩ := nil_sound (P := P) (w := w) (ev_rel h he x) hw
    have : CallRes P (Good T γ σ.base w K) ((execOp (fun _ => a.eval x) ⟨none, .nilCheck (.tmp 0), 0, "", #[], none⟩).run P w) := by
      rw [hr]; exact good_here h (ev_rel h he x) hk
    exact this
  case binOp op t x y yt => exact of_value' (bin_sound ok pe h (ev_rel h he x) (ev_rel h he y) hw)
  case unOp op t x => exact of_value' (un_sound h (ev_rel h he x) hw)
  case convert s d x => exact of_value (conv_sound ok h (ev_rel h he x) hw)
  case makeInterface t x =>
    obtain ⟨hc, hk⟩ := hw
    refine of_value' ⟨.iface t (a.eval x), ?_, good_here h (.ifc _ _ _ (ev_rel h he x)) hk⟩
    obtain ⟨d, hd⟩ := und_some ok (t := t) (by intro hh; rw [hh] at hc; exact hc)
    have htd := ok.td t
    have : ∀ ms, d ≠ .interface ms := fun ms hh => by
      subst hh
      cases hdd : T.td t <;> simp only [hdd, TDok] at htd hc
      case st => obtain ⟨f, hu, _⟩ := htd; rw [hd] at hu; cases hu
      case fn => obtain ⟨_, _, _, hu⟩ := htd; rw [hd] at hu; cases hu
      all_goals (rw [hd] at htd; cases htd)
    simp only [Instr.makeInterface, Sem.run_bind, run_underlying hd, Result.andThen_ok]
    cases d <;> first | rfl | (exact absurd rfl (this _))
  case makeFunc f first captured =>
    obtain ⟨h1, h2⟩ := args_rel h he first
    obtain ⟨h3, h4⟩ := args_rel h he captured
    exact of_value' ⟨_, rfl, good_here h (.fn _ _ _ _ _ h1 h3 h2 h4) hw⟩
  case slice t x lo hi mx => exact of_value' (slice_sound ok h he (ev_rel h he x) hw)
  case fieldAddr s x f => exact of_value' (fieldAddr_sound ok h (ev_rel h he x) hw)
  case field s x f => exact of_value' (field_sound ok h (ev_rel h he x) hw)
  case indexAddr t x i => exact of_value' (indexAddr_sound ok h (ev_rel h he x) (ev_rel h he i) hw)
  case index t x i => exact of_value' (index_sound ok h (ev_rel h he x) (ev_rel h he i) hw)
  case extract x i =>
    split at hw
    case h_2 => exact hw.elim
    rename_i vs hx
    split at hw
    case h_2 => exact hw.elim
    rename_i v hv
    have hr := ev_rel h he x
    rw [hx] at hr
    generalize hcx : a.eval x = cx at hr
    cases hr
    rename_i cs hl hrr
    obtain ⟨hlt, rfl⟩ := List.getElem?_eq_some_iff.1 hv
    have hi : i < cs.size := by omega
    refine of_value' ⟨cs.getD i undef, ?_, good_here h (hrr i hlt) hw⟩
    simp [Instr.extract, Array.getElem?_eq_getElem hi, Array.getD, hi]
  case call c => exact call_sound ok h he ty hw
  case makeSlice t l c => exact of_value (makeSlice_sound ok h (ev_rel h he l) (ev_rel h he c) hw)
  case makeMap t r =>
    cases r with
    | some _ => exact hw.elim
    | none => exact of_value (makeMap_sound h hw)
  case lookup t m k commaOk => exact of_value' (lookup_sound ok h (ev_rel h he m) (ev_rel h he k) hw)
  case mapUpdate t m k v =>
    obtain ⟨w', hr, hg⟩ := mapUpd_sound (P := P) ok h (ev_rel h he m) (ev_rel h he k) (ev_rel h he v) hw
    simp only [Sem.run_bind, hr, Result.andThen_ok, Sem.run_pure, CallRes]
    exact hg

end Go.Proofs.QQ
end
