/- A part of the proof that XlatePolicy returns true at every argument: the reader machine and this translation under it. Conditions: those that each theorem bears. -/
import Derived.Test.YtcdjeickpdlbfaaGreatDoorQ04
import Derived.Laws.IdiomStrings
import Derived.Laws.Append
section
set_option linter.unusedVariables false
set_option linter.unusedSimpArgs false
namespace Go.Proofs.QQ
open Go

variable {P : Program} {T : Tab} {γ : Gh} {σ : St} {w : World} {K : AV → St → Prop}

theorem und_some (ok : TabOk P T) {t : TypeId} (h : T.td t ≠ .other) : ∃ d, P.underlying t = some d := by
  have := ok.td t
  cases hd : T.td t <;> simp only [hd, TDok] at this h
  case other => exact absurd rfl h
  case st => obtain ⟨f, hu, _⟩ := this; exact ⟨_, hu⟩
  case fn => obtain ⟨a, b, c, hu⟩ := this; exact ⟨_, hu⟩
  case ifc => obtain ⟨a, hu⟩ := this; exact ⟨_, hu⟩
  all_goals exact ⟨_, this⟩

theorem un_sound (h : Rel T.glob γ σ w) {op : UnOp} {x : AV} {cx : Value} (hx : VRel γ w x cx) (hw : wUn op x σ K) :
    ∃ cv, (Op.unary op cx).run P w = .ok cv w ∧ Good T γ σ.base w K cv w := by
  unfold wUn at hw
  split at hw
  case h_4 => exact hw.elim
  case h_1 k n =>
    cases hx
    exact ⟨_, by simp [Op.unary, Op.intArith], good_here h (.int _ _) hw⟩
  case h_2 k n =>
    cases hx
    refine ⟨.int k (k.wrap (((n % 2 ^ k.bits).toNat ^^^ (2 ^ k.bits - 1) : Nat) : Int)), ?_, good_here h (.int _ _) hw⟩
    have e : ((if k.signed then (-1 : Int) else k.max) % 2 ^ k.bits).toNat = 2 ^ k.bits - 1 := by cases k <;> decide
    simp only [Op.unary, run_intBits, e, Nat.xor_comm]
  case h_3 b =>
    cases hx
    exact ⟨_, by simp [Op.unary], good_here h (.bool _) hw⟩

theorem bytes_of {cells : List AV} {s : List UInt8} {f : Nat → Value} (hr : ∀ i (h : i < cells.length), VRel γ w cells[i] (f i)) (he : cells = s.map byteA) (i : Nat) (hi : i < s.length) : f i = .int .u8 (s[i].toNat : Int) := by
  subst he
  have := hr i (by simpa using hi)
  simp only [List.getElem_map, byteA] at this
  generalize f i = v at this ⊢
  cases this
  rfl

theorem conv_sound (ok : TabOk P T) (h : Rel T.glob γ σ w) {mt : Bool} {src dst : TypeId} {x : AV} {cx : Value} (hx : VRel γ w x cx) (hw : wConv T mt src dst x σ K) :
    ∃ cv w', (convert src dst cx).run P w = .ok cv w' ∧ Good T γ σ.base w K cv w' := by
  unfold wConv at hw
  obtain ⟨hsrc, hw⟩ := hw
  obtain ⟨d0, hd0⟩ := und_some ok hsrc
  have hs := ok.td src
  have htd := ok.td dst
  split at hw
  case h_9 => exact hw.elim
  case h_1 k k' n hd =>
    simp only [hd, TDok] at htd
    cases hx
    exact ⟨_, w, by simp [convert, run_underlying hd0, run_underlying htd, Conv.intToInt], good_here h (.int _ _) hw⟩
  case h_2 s hd =>
    simp only [hd, TDok] at htd
    cases hx
    exact ⟨_, w, by simp [convert, run_underlying hd0, run_underlying htd], good_here h (.str _) hw.2⟩
  case h_3 e s hd =>
    simp only [hd, TDok] at htd
    obtain ⟨h1, h2, h3, hw⟩ := hw
    have he := ok.td e
    simp only [h1, TDok] at hs
    simp only [h2, TDok] at he
    cases hx
    refine ⟨_, _, run_bytes_of_string (P := P) w src dst e ⟨s.toArray⟩ hs htd he, ?_⟩
    have hge := grownCap_ge w (⟨s.toArray⟩ : ByteArray).size 0 e
    have hsz : (⟨s.toArray⟩ : ByteArray).size = s.length := by simp [ByteArray.size]
    generalize hcap : grownCap w (⟨s.toArray⟩ : ByteArray).size 0 e = cap at hge ⊢
    have hrs : (bytesRow ⟨s.toArray⟩ cap).size = cap := by simp [bytesRow, ByteArray.size] at hge ⊢; omega
    rw [hrs, hsz]
    have hw : wRow mt false none s.length 1 (s.map byteA) σ K := by
      unfold wRow
      have : (s.map byteA).all pureS = true := by simp [byteA, pureS]
      rw [this]
      exact hw
    refine new_sound h ((Fresh.drew w).trans (Fresh.alloc _ _)) e (cap, cap + 1) (alloc_at w.drew _ _ _) none (fun u hu => by cases hu) (fun i hi => ?_) cap ?_ (fun i hi => ?_) (by rw [← hsz]; exact hge) (by simp) (by omega) hw
    · have := alloc_at w.drew (bytesRow ⟨s.toArray⟩ cap) e (cap, cap + 1)
      have this : (w.drew.alloc (.cells (bytesRow ⟨s.toArray⟩ cap) e (cap, cap + 1))).heap[w.heap.size]? = _ := this
      simp only [World.frozen?, this]
      simp; omega
    · simp [hrs]; omega
    · have hi' : i < s.length := by simpa using hi
      have : (bytesRow ⟨s.toArray⟩ cap).getD i undef = .int .u8 (s[i].toNat : Int) := by
        have hlt : i < (bytesRow ⟨s.toArray⟩ cap).size := by omega
        simp only [Array.getD, hlt, dif_pos]
        simp [bytesRow, Array.getElem_append, hi']
      rw [this]
      simp only [List.getElem_map, byteA]
      exact .int _ _
  case h_4 hd =>
    simp only [hd, TDok] at htd
    obtain ⟨⟨e, h1, h2⟩, hw⟩ := hw
    have he := ok.td e
    simp only [h1, TDok] at hs
    simp only [h2, TDok] at he
    cases hx
    exact ⟨_, w, run_convert_bytes_nil (P := P) w src e hs he 0 0 dst htd, good_here h (.str []) hw⟩
  case h_5 full len cells hd =>
    simp only [hd, TDok] at htd
    obtain ⟨⟨e, h1, h2⟩, s, hlen, hcells, hk⟩ := hw
    have he := ok.td e
    simp only [h1, TDok] at hs
    simp only [h2, TDok] at he
    cases hx
    rename_i b off cap f hcap hfull hp hq hr
    subst hlen
    refine ⟨_, w, run_convert_bytes_back (P := P) w src dst e ⟨b, off, none⟩ cap s hs he htd (fun j hj => ?_), good_here h (.str s) hk⟩
    rw [add_at, (hp j (by simp [hcells]; exact hj)).2, bytes_of hr hcells j hj]
  case h_6 o g off len esz hd =>
    simp only [hd, TDok] at htd
    obtain ⟨⟨e, h1, h2⟩, cells, wm, hlt, hrow, s, hlen, hcells, hk⟩ := hw
    have he := ok.td e
    simp only [h1, TDok] at hs
    simp only [h2, TDok] at he
    cases hx
    rename_i a cap ho hg hcap ha
    obtain ⟨hge, f, hc, hr⟩ := h.cells hlt hrow
    obtain ⟨rfl, hroom⟩ := ha hge.symm
    subst hlen
    have hl2 : s.length ≤ (cells.drop off).length := by
      have := congrArg List.length hcells
      simp at this ⊢; omega
    refine ⟨_, w, run_convert_bytes_back (P := P) w src dst e ⟨γ.blk o, off, none⟩ cap s hs he htd (fun j hj => ?_), good_here h (.str s) hk⟩
    have hj2 : off + j < cells.length := by simp at hl2; omega
    rw [add_at, hc _ hj2]
    have := bytes_of (f := fun i => f (off + i)) (cells := (cells.drop off).take s.length) (s := s) (fun i hi => by simp only [List.getElem_take, List.getElem_drop]; exact hr _ _) hcells j hj
    rw [this]
  case h_7 o g off hd =>
    simp only [hd, TDok] at htd
    obtain ⟨⟨e, h1, hne⟩, ⟨cells, wm, hlt, hrow, hoff⟩, hk⟩ := hw
    simp only [h1, TDok] at hs
    cases hx
    rename_i a ho hg ha
    obtain ⟨⟨hge, _⟩, c, el, fr, hh, hcs, hl, _⟩ := h.row ho hrow
    obtain rfl := ha hge
    have hsh : w.shape? (γ.blk o) = some (el, c.size) := by simp [World.shape?, hh]
    have hlt' : ¬ c.size ≤ off := by omega
    refine ⟨.pointer (some ⟨γ.blk o, off, none⟩), w, ?_, good_here h (.ptr _ _ _ _ ho hg fun _ => rfl) hk⟩
    simp [convert, run_underlying hs, run_underlying htd, Conv.unsafePointer, Conv.seenAt, viewAt, cellsIn, Result.andThen, hsh, run_sizeOf ok hne, hne, hlt']
  case h_8 e o g off hd =>
    simp only [hd, TDok] at htd
    obtain ⟨h1, hne, rfl, hty, ⟨cells, wm, hlt, hrow, hfit⟩, hk⟩ := hw
    simp only [h1, TDok] at hs
    cases hx
    rename_i a ho hg ha
    obtain ⟨⟨hge, _⟩, c, el, fr, hh, hcs, hl, _⟩ := h.row ho hrow
    obtain rfl := ha hge
    obtain ⟨c', fr', hh', _⟩ := h.ty o e ho hty
    rw [hh] at hh'
    injection hh' with hh'
    injection hh' with e1 e2 e3
    subst e2
    have hsh : w.shape? (γ.blk o) = some (el, c.size) := by simp [World.shape?, hh]
    have hc : P.cellsOf el = T.size el := by
      obtain ⟨i, z, hi, hsz, _⟩ := ok.size el hne
      simp [Program.cellsOf, hi, hsz]
    have hlies : liesAt P P.depth el (c.size / P.cellsOf el) 0 el 1 = true := by
      have hd : P.depth = (2 * (P.types.size + Made.depth) + 1) + 1 := rfl
      rw [hd]
      simp only [liesAt, Bool.or_eq_true]
      left
      have h0 : 0 < c.size / P.cellsOf el := by rw [hc]; exact Nat.div_pos (by omega) (by omega)
      have h00 : P.cellsOf el ≠ 0 := by rw [hc]; exact hne
      rw [hd]
      simp [rowAt, h00, sameLayout]
      left; omega
    refine ⟨.pointer (some ⟨γ.blk o, 0, none⟩), w, ?_, good_here h (.ptr _ _ _ _ ho hg fun _ => rfl) hk⟩
    simp [convert, run_underlying hs, run_underlying htd, Conv.unsafePointer, Conv.seenAt, viewAt, variablesAt, Result.andThen, hsh, run_sizeOf ok hne, hne, hlies]


/-- What is read of an append's source. -/
theorem src_sound (h : Rel T.glob γ σ w) {esz : Nat} {x : AV} {cx : Value} {Kx : Nat → List AV → Prop} (hx : VRel γ w x cx) (hw : srcA esz x σ Kx) :
    ∃ n xs news, Kx n xs ∧ (Builtin.lenOf cx).run P w = .ok n w ∧ (∀ w', Fresh w w' → (Builtin.firstCells esz n cx).run P w' = .ok news w') ∧ xs.length = n * esz ∧ news.size = xs.length ∧
      ∀ i (h : i < xs.length), VRel γ w xs[i] (news.getD i undef) := by
  have rd : ∀ (b off : Nat) (f : Nat → Value) (r : List AV) (n : Nat) (len cap : Nat), r.length = n * esz → (∀ i, i < r.length → w.cell? ⟨b, off + i, none⟩ = some (f i)) → (∀ i (h : i < r.length), VRel γ w r[i] (f i)) →
      (∀ w', Fresh w w' → (Builtin.firstCells esz n (.slice (some ⟨b, off, none⟩) len cap)).run P w' = .ok ((List.range (n * esz)).map f).toArray w') ∧ (((List.range (n * esz)).map f).toArray).size = r.length ∧
      ∀ i (h : i < r.length), VRel γ w r[i] ((((List.range (n * esz)).map f).toArray).getD i undef) := by
    intro b off f r n len cap hl hc hr
    refine ⟨fun w' hf => ?_, by simp [hl], fun i hi => ?_⟩
    · have := run_loadCells (P := P) w' ⟨b, off, none⟩ (n * esz) f (fun j hj => by
        rw [add_at]
        have hcj := hc j (by omega)
        rw [hf.cell (World.block_lt_of_cell? w _ hcj)]
        exact hcj)
      simpa [Builtin.firstCells] using this
    · have hi' : i < n * esz := by omega
      have := hr i hi
      simpa [Array.getD, hi'] using this
  unfold srcA at hw
  split at hw
  case h_5 => exact hw.elim
  case h_1 =>
    cases hx
    exact ⟨0, [], #[], hw, by simp [Builtin.lenOf], fun w' _ => by simp [Builtin.firstCells], by simp, rfl, fun i hi => by simp at hi⟩
  case h_2 full n cells =>
    obtain ⟨r, hr1, hr2, hk⟩ := hw
    cases hx
    rename_i b off cap f hcap hfull hp hq hr
    have hle : n * esz ≤ cells.length := by rw [← hr1] at hr2; simp at hr2; omega
    obtain ⟨h1, h2, h3⟩ := rd b off f r n n cap hr2 (fun i hi => (hp i (by omega)).2) (fun i hi => by
      subst hr1
      simp only [List.getElem_take]
      exact hr _ _)
    exact ⟨n, r, _, hk, by simp [Builtin.lenOf], h1, hr2, h2, h3⟩
  case h_3 s =>
    obtain ⟨rfl, hk⟩ := hw
    cases hx
    have hsz : (⟨s.toArray⟩ : ByteArray).size = s.length := by simp [ByteArray.size]
    refine ⟨s.length, s.map byteA, (s.map fun b => Value.int .u8 b.toNat).toArray, hk, by simp [Builtin.lenOf, hsz], fun w' _ => ?_, by simp, by simp, fun i hi => ?_⟩
    · simp [Builtin.firstCells, ByteArray.data_extract]
    · have hi' : i < s.length := by simpa using hi
      simp only [List.getElem_map, byteA]
      have : ((s.map fun b => Value.int .u8 b.toNat).toArray).getD i undef = .int .u8 (s[i].toNat : Int) := by simp [Array.getD, hi']
      rw [this]
      exact .int _ _
  case h_4 o g off n esz' =>
    obtain ⟨rfl, cells, wm, r, hlt, hrow, hr1, hr2, hk⟩ := hw
    cases hx
    rename_i a cap ho hg hcap ha
    obtain ⟨hge, f, hc, hr⟩ := h.cells hlt hrow
    obtain ⟨rfl, hroom⟩ := ha hge.symm
    have hle : off + r.length ≤ cells.length ∨ r.length = 0 := by rw [← hr1]; simp; omega
    obtain ⟨h1, h2, h3⟩ := rd (γ.blk o) off (fun i => f (off + i)) r n n cap hr2 (fun i hi => hc _ (by omega)) (fun i hi => by
      subst hr1
      simp only [List.getElem_take, List.getElem_drop]
      exact hr _ _)
    exact ⟨n, r, _, hk, by simp [Builtin.lenOf], h1, hr2, h2, h3⟩

theorem growBy_le (need : Nat) : ∀ (rounds c : Nat), c ≤ 2 * need + 1000 → Builtin.growBy need rounds c ≤ 4 * need + 2000
  | 0, c, h => by simp [Builtin.growBy]; omega
  | n + 1, c, h => by
    simp only [Builtin.growBy]
    split
    · omega
    · rename_i hc
      exact growBy_le need n _ (by omega)
theorem nextcap_le (need old : Nat) (h : old < need) : Builtin.nextslicecap need old ≤ 4 * need + 2000 := by
  unfold Builtin.nextslicecap
  split
  · omega
  · split
    · omega
    · exact growBy_le need 4 old (by omega)

/-- append, where a new array must come. -/
theorem run_grow (ok : TabOk P T) {t u e : TypeId} (hd : T.td t = .sl e) (hu : match T.td u with | .sl _ | .str => True | _ => False) (hne : T.size e ≠ 0) (hby : T.bytes e ≤ 4096)
    (A : Option Addr) (sLen sCap n : Nat) (cx : Value) (olds news : Array Value) (hlen : (Builtin.lenOf cx).run P w = .ok n w) (hold : ∀ w', Fresh w w' → (Builtin.firstCells (T.size e) sLen (.slice A sLen sCap)).run P w' = .ok olds w')
    (hnew : ∀ w', Fresh w w' → (Builtin.firstCells (T.size e) n cx).run P w' = .ok news w') (hcap : sCap < sLen + n) (hmax : sLen + n ≤ 1073741824) (ty : TypeId) :
    ∃ (rest : Array Value) (cap : Nat), sLen + n ≤ cap ∧ rest.size = (cap - (sLen + n)) * T.size e ∧
      (Builtin.append_ #[t, u] ty #[.slice A sLen sCap, cx]).run P w = .ok (.slice (some ⟨w.heap.size, 0, none⟩) (sLen + n) cap) (w.drew.alloc (.cells (olds ++ news ++ rest) e)) := by
  have htd := ok.td t
  simp only [hd, TDok] at htd
  obtain ⟨i, z, hi, hs, hb, hz, hzc, hzn, _⟩ := ok.size e hne
  have hut : ∃ d, P.underlying u = some d ∧ ∀ k, d ≠ .int k := by
    have htu := ok.td u
    cases hdu : T.td u <;> simp only [hdu, TDok] at hu htu
    · exact ⟨_, htu, fun k h => by cases h⟩
    · exact ⟨_, htu, fun k h => by cases h⟩
  obtain ⟨du, hut, hnint⟩ := hut
  have hzero : (match du with | .int _ => true | _ => false) = false := by
    cases du <;> first | rfl | (exact absurd rfl (hnint _))
  have hfit : ¬ Builtin.nextslicecap (sLen + n) sCap * i.bytes > 2 ^ 48 := by
    have h1 := nextcap_le (sLen + n) sCap hcap
    have h2 : Builtin.nextslicecap (sLen + n) sCap * i.bytes ≤ (4 * 1073741824 + 2000) * 4096 := Nat.mul_le_mul (by omega) (by omega)
    omega
  refine ⟨Builtin.zeroCells z.cells (grownCap w (sLen + n) sCap e - (sLen + n)), grownCap w (sLen + n) sCap e, grownCap_ge w _ _ _, by rw [size_zeroCells, hzn, hs], ?_⟩
  have hold' := hold w.drew (Fresh.drew w)
  have hnew' := hnew w.drew (Fresh.drew w)
  simp only [Builtin.append_, run_underlying htd, Sem.run_bind, Sem.run_pure, Result.andThen_ok, sizeOf, typeInfo, run_program, hi, run_underlying hut, hzero, List.getElem?_toArray, List.getElem?_cons_zero, List.getElem?_cons_succ, Bool.false_eq_true, if_false, hlen, Sem.run_ite]
  rw [if_neg (by omega), if_neg (by
    rintro ⟨h1, _⟩
    have : IntKind.i64.max = 9223372036854775807 := by decide
    omega), if_neg hfit]
  have hq : (Question.appendCap (sLen + n) sCap e).forced = false := rfl
  simp only [Sem.run_bind, run_choose_drew, hq, Bool.false_eq_true, if_false, Result.andThen_ok, run_askRoom, hs, hold', hnew', Bool.not_false, if_true, zeroValue, typeInfo, run_program, hi, Sem.run_pure, hz, newRow, run_newObj_alloc, grownCap]
  rfl


theorem ones {xs : List AV} {news : Array Value} (hl : news.size = xs.length) (hr : ∀ i (h : i < xs.length), VRel γ w xs[i] (news.getD i undef)) (ho : xs.all oneA = true) : ∀ u ∈ news.toList, u.oneCell' = true := by
  intro u hu
  obtain ⟨i, hi, rfl⟩ := List.getElem_of_mem hu
  have hi' : i < xs.length := by simp at hi; omega
  have h1 := hr i hi'
  have hi2 : i < news.size := by omega
  simp only [Array.getD, hi2, dif_pos] at h1
  exact oneCell_of h1 (by simpa using List.all_eq_true.1 ho _ (List.getElem_mem hi'))

theorem app_rel {r xs : List AV} {olds news rest : Array Value} (h1 : olds.size = r.length) (h2 : news.size = xs.length) (hr1 : ∀ i (h : i < r.length), VRel γ w r[i] (olds.getD i undef)) (hr2 : ∀ i (h : i < xs.length), VRel γ w xs[i] (news.getD i undef)) :
    (r ++ xs).length ≤ (olds ++ news ++ rest).size ∧ ∀ i (h : i < (r ++ xs).length), VRel γ w (r ++ xs)[i] ((olds ++ news ++ rest).getD i undef) := by
  refine ⟨by simp; omega, fun i hi => ?_⟩
  have hi' : i < r.length + xs.length := by simpa using hi
  by_cases hlt : i < r.length
  · have e : (olds ++ news ++ rest).getD i undef = olds.getD i undef := by
      have ho : i < olds.size := by omega
      simp only [Array.getD_eq_getD_getElem?, Array.getElem?_append]
      rw [if_pos (by simp; omega), if_pos ho]
    rw [e, List.getElem_append_left hlt]
    exact hr1 i hlt
  · have e : (olds ++ news ++ rest).getD i undef = news.getD (i - r.length) undef := by
      simp only [Array.getD_eq_getD_getElem?, Array.getElem?_append]
      rw [if_pos (by simp; omega), if_neg (by omega), h1]
    rw [e, List.getElem_append_right (by omega)]
    exact hr2 _ _

theorem append_sound (ok : TabOk P T) (h : Rel T.glob γ σ w) {t u : TypeId} {s x : AV} {cs cx : Value} (hs : VRel γ w s cs) (hx : VRel γ w x cx) (hu : match T.td u with | .sl _ | .str => True | _ => False) (ty : TypeId) (hw : wAppend T t s x σ K) :
    ∃ cv w', (Builtin.append_ #[t, u] ty #[cs, cx]).run P w = .ok cv w' ∧ Good T γ σ.base w K cv w' := by
  unfold wAppend at hw
  split at hw
  case h_2 => exact hw.elim
  rename_i e hd
  obtain ⟨hne, hby, hsrc⟩ := hw
  obtain ⟨n, xs, news, ⟨hone, hk⟩, hlen, hnew, hxl, hnl, hnr⟩ := src_sound (P := P) h hx hsrc
  have htd := ok.td t
  simp only [hd, TDok] at htd
  obtain ⟨i, z, hi, hsz, hb, hz, hzc, hzn, _⟩ := ok.size e hne
  have hut : ∃ d, P.underlying u = some d ∧ ∀ k, d ≠ .int k := by
    have htu := ok.td u
    cases hdu : T.td u <;> simp only [hdu, TDok] at hu htu
    · exact ⟨_, htu, fun k h => by cases h⟩
    · exact ⟨_, htu, fun k h => by cases h⟩
  obtain ⟨du, hut, hnint⟩ := hut
  have hzero : (match du with | .int _ => true | _ => false) = false := by
    cases du <;> first | rfl | (exact absurd rfl (hnint _))
  have room : ∀ (b off sLen sCap : Nat), sLen + n ≤ sCap → (Builtin.append_ #[t, u] ty #[.slice (some ⟨b, off, none⟩) sLen sCap, cx]).run P w =
      ((storeCells ⟨b, off + sLen * T.size e, none⟩ news.toList).run P w).andThen fun _ w' => .ok (.slice (some ⟨b, off, none⟩) (sLen + n) sCap) w' := by
    intro b off sLen sCap hfit
    have hnew' := hnew w (Fresh.refl w)
    simp only [Builtin.append_, run_underlying htd, Sem.run_bind, Sem.run_pure, Result.andThen_ok, sizeOf, typeInfo, run_program, hi, run_underlying hut, hzero, List.getElem?_toArray, List.getElem?_cons_zero, List.getElem?_cons_succ, Bool.false_eq_true, if_false, hlen, Sem.run_ite]
    rw [if_pos hfit]
    simp only [Bool.not_false, if_true, hsz, hnew', Result.andThen_ok, Sem.run_bind, add_at, Sem.run_pure]
  rcases hk with ⟨rfl, his, hk⟩ | ⟨hpos, hk⟩
  · have hnil : news.toList = [] := by
      have : news.size = 0 := by rw [hnl, hxl]; simp
      simpa using this
    cases hs <;> simp only [isSl, Bool.false_eq_true] at his
    case nils =>
      refine ⟨_, w, ?_, good_here h .nils hk⟩
      have hnew' := hnew w (Fresh.refl w)
      simp only [Builtin.append_, run_underlying htd, Sem.run_bind, Sem.run_pure, Result.andThen_ok, sizeOf, typeInfo, run_program, hi, run_underlying hut, hzero, List.getElem?_toArray, List.getElem?_cons_zero, List.getElem?_cons_succ, Bool.false_eq_true, if_false, hlen, Sem.run_ite]
      rw [if_pos (by omega)]
      simp only [Bool.not_false, if_true, hsz, hnew', Result.andThen_ok, Sem.run_bind, Sem.run_pure]
    case sl full len cells b off cap f hcap hfull hp hq hr =>
      have := room b off len cap (by omega)
      rw [hnil] at this
      exact ⟨_, w, this, good_here h (.sl full len cells b off cap f hcap hfull hp hq hr) hk⟩
    case ms o g off len esz a cap ho hg hcap ha =>
      have hspot : ∀ a : Addr, (Builtin.append_ #[t, u] ty #[.slice (some a) len cap, cx]).run P w = .ok (.slice (some a) len cap) w := by
        intro a
        have hnew' := hnew w (Fresh.refl w)
        simp only [Builtin.append_, run_underlying htd, Sem.run_bind, Sem.run_pure, Result.andThen_ok, sizeOf, typeInfo, run_program, hi, run_underlying hut, hzero, List.getElem?_toArray, List.getElem?_cons_zero, List.getElem?_cons_succ, Bool.false_eq_true, if_false, hlen, Sem.run_ite]
        rw [if_pos (by omega)]
        simp only [Bool.not_false, if_true, hsz, hnew', Result.andThen_ok, Sem.run_bind, hnil, storeCells, Sem.run_pure, Nat.add_zero]
      exact ⟨_, w, hspot a, good_here h (.ms o g off len esz a cap ho hg hcap ha) hk⟩
  · cases hs <;> try simp only at hk
    case nils =>
      obtain ⟨hmax, hk⟩ := hk
      obtain ⟨rest, cap, hcap, hrest, hrun⟩ := run_grow (P := P) (w := w) ok hd hu hne hby none 0 0 n cx #[] news hlen (fun w' _ => by simp [Builtin.firstCells]) hnew (by omega) (by omega) ty
      have ha := app_rel (γ := γ) (w := w) (r := []) (olds := #[]) (rest := rest) rfl hnl (fun i h => by simp at h) hnr
      refine ⟨_, _, hrun, ?_⟩
      have := new_sound (K := K) (mt := true) (full := false) (len := n) (esz := T.size e) (cells := [] ++ xs) h ((Fresh.drew w).trans (Fresh.alloc _ _)) e (0, 0) (alloc_at w.drew _ _ _) (some e) (fun u hu => ⟨(Option.some.inj hu).symm, .inl rfl⟩) (fun i _ => World.frozen?_alloc_new w.drew _ e i) cap ha.1 ha.2 (by omega) (by simp) (by
        simp only [Array.size_append, hnl, hxl, hrest, List.size_toArray, List.length_nil]
        rw [Nat.zero_add, Nat.zero_add, ← Nat.add_mul]
        exact Nat.mul_le_mul_right _ (by omega)) hk
      simpa using this
    case sl full len cells b off cap f hcap hfull hp hq hr =>
      cases full with
      | false => exact hk.elim
      | true =>
        obtain ⟨hmax, r, hr1, hr2, hk⟩ := hk
        obtain rfl : len = cap := (hfull rfl).symm
        have hle : len * T.size e ≤ cells.length := by rw [← hr1] at hr2; simp at hr2; omega
        have hrr : ∀ i (h : i < r.length), VRel γ w r[i] ((((List.range (len * T.size e)).map f).toArray).getD i undef) := fun i hi => by
          have hi' : i < len * T.size e := by omega
          have : (((List.range (len * T.size e)).map f).toArray).getD i undef = f i := by simp [Array.getD, hi']
          rw [this]
          subst hr1
          simp only [List.getElem_take]
          exact hr _ _
        obtain ⟨rest, cap', hcap', hrest, hrun⟩ := run_grow (P := P) (w := w) ok hd hu hne hby (some ⟨b, off, none⟩) len len n cx ((List.range (len * T.size e)).map f).toArray news hlen (fun w' hf => by
          have := run_loadCells (P := P) w' ⟨b, off, none⟩ (len * T.size e) f (fun j hj => by
            rw [add_at]
            have hcj := (hp j (by omega)).2
            rw [hf.cell (World.block_lt_of_cell? w _ hcj)]
            exact hcj)
          simpa [Builtin.firstCells] using this) hnew (by omega) hmax ty
        have ha := app_rel (γ := γ) (w := w) (r := r) (olds := ((List.range (len * T.size e)).map f).toArray) (rest := rest) (by simp [hr2]) hnl hrr hnr
        refine ⟨_, _, hrun, ?_⟩
        exact new_sound (K := K) (mt := true) (full := false) (len := len + n) (esz := T.size e) (cells := r ++ xs) h ((Fresh.drew w).trans (Fresh.alloc _ _)) e (0, 0) (alloc_at w.drew _ _ _) (some e) (fun u hu => ⟨(Option.some.inj hu).symm, .inl rfl⟩) (fun i _ => World.frozen?_alloc_new w.drew _ e i) cap' ha.1 ha.2 hcap' (by simp) (by
          simp only [Array.size_append, hnl, hxl, hrest, List.size_toArray, List.length_map, List.length_range]
          rw [← Nat.add_mul, ← Nat.add_mul]
          exact Nat.mul_le_mul_right _ (by omega)) hk
    case ms o g off len esz a cap ho hg hcap ha =>
      obtain ⟨rfl, rfl, hmax, cells, wm, hlt, hbase, hrow, hwm, hfit, hk⟩ := hk
      obtain ⟨⟨hge, hnf⟩, c, el, fr, hh, hcs, hl, hvr, hf, hp⟩ := h.row ho hrow
      obtain ⟨rfl, hroom⟩ := ha hge
      simp only [Nat.zero_add] at hroom
      have htk : ∀ i (h : i < (cells.take (len * T.size e)).length), VRel γ w (cells.take (len * T.size e))[i] (c.getD i undef) := fun i hi => by
        simp only [List.getElem_take]; exact hvr _ _
      have htl : (cells.take (len * T.size e)).length = len * T.size e := by simp; omega
      by_cases hin : len + n ≤ cap
      · have hrun := room (γ.blk o) 0 len cap hin
        simp only [Nat.zero_add] at hrun
        have hmul : len * T.size e + n * T.size e ≤ cap * T.size e := by rw [← Nat.add_mul]; exact Nat.mul_le_mul_right _ hin
        obtain ⟨w', c', hst, hwr, hh', hs', hc'⟩ := run_stores (P := P) (γ.blk o) el fr news.toList (len * T.size e) 0 c w hh (by simp [hnl, hxl]; omega) (fun j hm => hf j (by omega)) (ones hnl hnr hone)
        rw [hst] at hrun
        have hgetc : ∀ i, i < c.size → c'.getD i undef = if len * T.size e ≤ i ∧ i < len * T.size e + xs.length then news.getD (i - len * T.size e) undef else c.getD i undef := by
          intro i hi
          have := hc' i
          simp only [Nat.add_zero, Array.length_toList, hnl, Array.getElem?_toList] at this
          simp only [Array.getD_eq_getD_getElem?, this]
          split <;> rfl
        obtain ⟨hstep, hrel⟩ := write_row h σ.base wm (Nat.le_refl _) ho hbase hrow hh hwr hh' hs' (fun i hi => by rw [hc' i, if_neg (by omega)]) (FrOk.same hs') (fun i hm hi => by
            have h1 := hf i hm (by omega)
            simp only [World.frozen?, hh, hh'] at h1 ⊢
            exact h1) (cells.take (len * T.size e) ++ xs) (g + 1) (by omega) (by rw [List.length_append, htl]; omega) (fun i hi => by
            rw [List.length_append, htl] at hi
            rw [hgetc i (by omega)]
            by_cases h1 : i < len * T.size e
            · rw [if_neg (by omega), List.getElem_append_left (by omega)]
              exact htk i _
            · rw [if_pos ⟨by omega, by omega⟩, List.getElem_append_right (by omega)]
              simp only [htl]
              exact hnr _ _)
        refine ⟨_, w', hrun, _, σ.setT o _ _, γ.bump o (g + 1), .ms o (g + 1) 0 (len + n) (T.size e) _ cap ?_ ?_ hin fun _ => ⟨rfl, ?_⟩, hstep, hrel.setT (keepTy_or σ o e), rfl, hk⟩
        · exact ho
        · simp [Gh.bump]
        · simpa [Gh.bump] using hroom
      · have hfirst : ∀ w', Fresh w w' → (Builtin.firstCells (T.size e) len (.slice (some ⟨γ.blk o, 0, none⟩) len cap)).run P w' = .ok ((List.range (len * T.size e)).map fun i => c.getD i undef).toArray w' := fun w' hfw => by
          have := run_loadCells (P := P) w' ⟨γ.blk o, 0, none⟩ (len * T.size e) (fun i => c.getD i undef) (fun j hj => by
            rw [add_at, Nat.zero_add]
            have hjc : j < c.size := by omega
            have hcj : w.cell? ⟨γ.blk o, j, none⟩ = some (c.getD j undef) := by simp [World.cell?, hh, Array.getD, hjc]
            rw [hfw.cell (World.block_lt_of_cell? w _ hcj)]
            exact hcj)
          simpa [Builtin.firstCells] using this
        obtain ⟨rest, cap', hcap', hrest, hrun⟩ := run_grow (P := P) (w := w) ok hd hu hne hby (some ⟨γ.blk o, 0, none⟩) len cap n cx _ news hlen hfirst hnew (by omega) hmax ty
        have hap := app_rel (γ := γ) (w := w) (r := cells.take (len * T.size e)) (olds := ((List.range (len * T.size e)).map fun i => c.getD i undef).toArray) (rest := rest) (by simp [htl] <;> omega) hnl (fun i hi => by
          have hi' : i < len * T.size e := by omega
          have e1 : (((List.range (len * T.size e)).map fun i => c.getD i undef).toArray).getD i undef = c.getD i undef := by simp [Array.getD, hi']
          rw [e1]
          exact htk i hi) hnr
        obtain ⟨hstep, hrel⟩ := move_row h σ.base ho hbase hrow ((Fresh.drew w).trans (Fresh.alloc _ _)) (Nat.le_refl _) (alloc_at w.drew _ e (0, 0)) (cells.take (len * T.size e) ++ xs) wm (keepTy σ o e) (fun _ => keepTy_some) hap.1 hap.2
        refine ⟨_, _, hrun, _, σ.setT o _ _, γ.move o (g + 1) w.heap.size _, .ms o (g + 1) 0 (len + n) (T.size e) _ cap' ho ?_ hcap' fun _ => ⟨?_, ?_⟩, hstep, hrel, rfl, hk⟩
        · simp [Gh.move]
        · simp [Gh.move]
        · simp only [Gh.move, if_true, Array.size_append, hnl, hxl, hrest, List.size_toArray, List.length_map, List.length_range, Nat.zero_add]
          rw [← Nat.add_mul, ← Nat.add_mul]
          exact Nat.mul_le_mul_right _ (by omega)

end Go.Proofs.QQ
end
