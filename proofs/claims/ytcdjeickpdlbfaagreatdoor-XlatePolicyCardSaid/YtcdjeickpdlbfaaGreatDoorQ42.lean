/- A part of the proof that XlatePolicy returns true at every argument: the reader machine and this translation under it. Conditions: those that each theorem bears. -/
import Derived.Test.YtcdjeickpdlbfaaGreatDoorQ40
import Derived.Test.YtcdjeickpdlbfaaGreatDoorQ41
section
set_option maxRecDepth 100000
set_option linter.unusedVariables false
set_option linter.unusedSimpArgs false
namespace Go.Proofs.QQ
open Go

/-- A variable that holds these cells. -/
def Has (st : St) (v : AV) (cells : List AV) : Prop := ∃ o, v = .ptr o 0 0 ∧ o < st.n ∧ st.at_ o = .row cells 0 0

/-- Old objects are as they were. -/
def Grows (a b : St) : Prop := a.n ≤ b.n ∧ b.base = a.base ∧ ∀ o, o < a.n → b.at_ o = a.at_ o

theorem Has.grows {a b : St} {v : AV} {cells : List AV} (h : Has a v cells) (g : Grows a b) : Has b v cells := by
  obtain ⟨o, h1, h2, h3⟩ := h
  exact ⟨o, h1, Nat.lt_of_lt_of_le h2 g.1, (g.2.2 o h2).trans h3⟩

/-- Two new variables, and what is stored into them. -/
def two (σ : St) (c1 c2 : List AV) : St := (((σ.push (.row [.str [], .nils, .nils] 0 0) (some 36)).push (.row [.int .i64 0, .int .i64 0] 0 0) (some 38)).set σ.n (.row c1 0 0)).set (σ.n + 1) (.row c2 0 0)

theorem two_grows (σ : St) (c1 c2 : List AV) : Grows σ (two σ c1 c2) := by
  refine ⟨by simp [two, St.set, St.push]; omega, rfl, fun o ho => ?_⟩
  have h1 : o ≠ σ.n + 1 := by omega
  have h2 : o ≠ σ.n := by omega
  simp [two, St.set, St.push, h1, h2]
theorem two_has (σ : St) (c1 c2 : List AV) : Has (two σ c1 c2) (.ptr (σ.n + 1) 0 0) c2 := ⟨σ.n + 1, rfl, by simp [two, St.set, St.push], by simp [two, St.set]⟩

theorem two_base {σ : St} {c1 c2 : List AV} (h : σ.base ≤ σ.n) : (two σ c1 c2).base ≤ (two σ c1 c2).n := by simp [two, St.set, St.push]; omega

theorem td36 : TT.td 36 = .st [(0, 9), (1, 33), (2, 34)] := by kernel_rfl
theorem td38 : TT.td 38 = .st [(0, 3), (1, 24)] := by kernel_rfl
theorem td24 : TT.td 24 = .int .i64 := by kernel_rfl
theorem sz36 : TT.size 36 = 3 := by kernel_rfl
theorem sz38 : TT.size 38 = 2 := by kernel_rfl
theorem sz3 : TT.size 3 = 1 := by kernel_rfl
theorem sz24 : TT.size 24 = 1 := by kernel_rfl
theorem z36 : zeroA TT 36 = [.str [], .nils, .nils] := by kernel_rfl
theorem z38 : zeroA TT 38 = [.int .i64 0, .int .i64 0] := by kernel_rfl

theorem two_store {σ : St} (hb : σ.base ≤ σ.n) {a b c x y : AV} (ha : [a, b, c].all oneA = true) (hx : [x, y].all oneA = true) {K : St → Prop} (h : K (two σ [a, b, c] [x, y])) :
    wStore TT 36 (.ptr σ.n 0 0) (.agg [a, b, c]) ((σ.push (.row [.str [], .nils, .nils] 0 0) (some 36)).push (.row [.int .i64 0, .int .i64 0] 0 0) (some 38)) fun _ σ' => wStore TT 38 (.ptr (σ.n + 1) 0 0) (.agg [x, y]) σ' fun _ σ'' => K σ'' := by
  simp only [wStore, cellsA]
  refine ⟨[.str [], .nils, .nils], 0, by simp [St.push]; omega, by simp [St.push]; exact hb, by simp [St.push], by rw [sz36]; rfl, by rw [sz36]; decide, ha, Nat.zero_le _, by simp, ?_⟩
  refine ⟨[.int .i64 0, .int .i64 0], 0, by simp [St.push, St.set], by simp [St.push, St.set]; omega, by simp [St.push, St.set], by rw [sz38]; rfl, by rw [sz38]; decide, hx, Nat.zero_le _, by simp, ?_⟩
  exact h

theorem load38 {st : St} {v x y : AV} {K : AV → St → Prop} (h : Has st v [x, y]) (hk : K (.agg [x, y]) st) : wLoad TT 38 v st K := by
  obtain ⟨o, rfl, h2, h3⟩ := h
  simp only [wLoad]
  exact ⟨_, _, h2, h3, by simp only [valA, td38]; exact ⟨by rw [sz38]; decide, by rw [sz38]; exact Nat.le_refl _, by rw [sz38]; exact hk⟩⟩

theorem fa38 {st : St} {v x y : AV} {K : AV → St → Prop} (h : Has st v [x, y]) (hk : ∀ p, (∃ o, p = .ptr o 0 1 ∧ o < st.n ∧ st.at_ o = .row [x, y] 0 0) → K p st) : wFieldAddr TT 38 v 1 st K := by
  obtain ⟨o, rfl, h2, h3⟩ := h
  simp only [wFieldAddr, td38]
  exact ⟨by rw [sz24]; decide, hk _ ⟨o, rfl, h2, h3⟩⟩
theorem ld24 {st : St} {p x y : AV} {K : AV → St → Prop} (h : ∃ o, p = .ptr o 0 1 ∧ o < st.n ∧ st.at_ o = .row [x, y] 0 0) (hk : K y st) : wLoad TT 24 p st K := by
  obtain ⟨o, rfl, h2, h3⟩ := h
  simp only [wLoad]
  refine ⟨_, _, h2, h3, ?_⟩
  simp only [valA, td24]
  exact hk

theorem build38 {st : St} {a b : Int} {K : AV → St → Prop} (hk : K (.agg [.int .i64 a, .int .i64 b]) st) : wBuild TT 38 [(0, .int .i64 a), (1, .int .i64 b)] st K := by
  simp only [wBuild, td38, sz38, z38]
  refine ⟨by decide, ?_⟩
  simp [fillA, cellsA, put, sz3, sz24]
  exact hk
theorem build38b {st : St} {b : Int} {K : AV → St → Prop} (hk : K (.agg [.int .i64 0, .int .i64 b]) st) : wBuild TT 38 [(1, .int .i64 b)] st K := by
  simp only [wBuild, td38, sz38, z38]
  refine ⟨by decide, ?_⟩
  simp [fillA, cellsA, put, sz3, sz24]
  exact hk
theorem eq38 {st : St} {a b : Int} {K : AV → St → Prop} (hk : K (.bool true) st) : wBin TT .eql 38 (.agg [.int .i64 a, .int .i64 b]) (.agg [.int .i64 a, .int .i64 b]) st K := by
  simp only [wBin]
  refine ⟨rfl, ?_⟩
  simp [eqL, eqS, sameInt]
  exact hk

set_option maxRecDepth 10000000 in
theorem src449 (σ : St) : ACall Tryz.prog TT 8 [.str [105, 110, 120, 32, 104, 10, 104, 108, 116], .bool false] σ fun v σ' => v = (.tup [.agg [.str (76 :: 48 :: 48 :: 48 :: 48 :: 58 :: 32 :: 76 :: 65 :: 72 :: 70 :: 10 :: 73 :: 78 :: 67 :: 32 :: 66 :: 88 :: 10 :: 83 :: 65 :: 72 :: 70 :: 10 :: 76 :: 48 :: 48 :: 48 :: 49 :: 58 :: 32 :: 72 :: 76 :: 84 :: 10 :: 69 :: 78 :: 68 :: 32 :: 76 :: 48 :: 48 :: 48 :: 48 :: 10 :: []), .sl false 2 [.int .u16 0, .int .u8 35, .int .u16 0, .int .u16 1, .int .u8 118, .int .u16 0], .sl false 2 [.int .i64 31, .int .i64 31]], .agg [.int .i64 0, .int .i64 0]]) ∧ σ' = σ := memo_of call4_ok (of_eq_true m449.out) σ
theorem src450 (σ : St) : ACall Tryz.prog TT 8 [.str (99 :: 111 :: 100 :: 101 :: 58 :: 32 :: 110 :: 111 :: 112 :: 10 :: 108 :: 120 :: 105 :: 32 :: 104 :: 44 :: 99 :: 111 :: 100 :: 101 :: 10 :: 104 :: 108 :: 116 :: []), .bool false] σ fun v σ' => v = (.tup [.agg [.str [], .nils, .nils], .agg [.int .i64 2, .int .i64 9]]) ∧ σ' = σ := memo_of call4_ok (of_eq_true m450.out) σ
theorem src451 (σ : St) : ACall Tryz.prog TT 8 [.str (99 :: 111 :: 100 :: 101 :: 58 :: 32 :: 110 :: 111 :: 112 :: 10 :: 112 :: 99 :: 104 :: 108 :: []), .bool false] σ fun v σ' => v = (.tup [.agg [.str [], .nils, .nils], .agg [.int .i64 2, .int .i64 10]]) ∧ σ' = σ := memo_of call4_ok (of_eq_true m451.out) σ
theorem src452 (σ : St) : ACall Tryz.prog TT 8 [.str [106, 109, 112, 32, 49, 10, 104, 108, 116], .bool false] σ fun v σ' => v = (.tup [.agg [.str [], .nils, .nils], .agg [.int .i64 1, .int .i64 10]]) ∧ σ' = σ := memo_of call4_ok (of_eq_true m452.out) σ
set_option maxRecDepth 10000000 in
theorem src453 (σ : St) : ACall Tryz.prog TT 8 [.str (108 :: 120 :: 105 :: 32 :: 104 :: 44 :: 100 :: 97 :: 116 :: 97 :: 10 :: 104 :: 108 :: 116 :: 10 :: 100 :: 97 :: 116 :: 97 :: 58 :: 32 :: 100 :: 98 :: 32 :: 53 :: []), .bool false] σ fun v σ' => v = (.tup [.agg [.str (76 :: 48 :: 48 :: 48 :: 48 :: 58 :: 32 :: 77 :: 79 :: 86 :: 32 :: 66 :: 88 :: 44 :: 52 :: 10 :: 76 :: 48 :: 48 :: 48 :: 51 :: 58 :: 32 :: 72 :: 76 :: 84 :: 10 :: 69 :: 78 :: 68 :: 32 :: 76 :: 48 :: 48 :: 48 :: 48 :: 10 :: []), .sl false 2 [.int .u16 0, .int .u8 33, .int .u16 4, .int .u16 3, .int .u8 118, .int .u16 0], .sl false 2 [.int .i64 31, .int .i64 31]], .agg [.int .i64 0, .int .i64 0]]) ∧ σ' = σ := memo_of call4_ok (of_eq_true m453.out) σ
theorem src454 (σ : St) : ACall Tryz.prog TT 8 [.str (110 :: 111 :: 112 :: 10 :: 104 :: 108 :: 116 :: 10 :: 101 :: 110 :: 100 :: 32 :: 53 :: []), .bool false] σ fun v σ' => v = (.tup [.agg [.str [], .nils, .nils], .agg [.int .i64 0, .int .i64 10]]) ∧ σ' = σ := memo_of call4_ok (of_eq_true m454.out) σ
theorem src455 (σ : St) : ACall Tryz.prog TT 8 [.str (99 :: 111 :: 100 :: 101 :: 58 :: 32 :: 104 :: 108 :: 116 :: 10 :: 100 :: 119 :: 32 :: 99 :: 111 :: 100 :: 101 :: []), .bool false] σ fun v σ' => v = (.tup [.agg [.str [], .nils, .nils], .agg [.int .i64 2, .int .i64 9]]) ∧ σ' = σ := memo_of call4_ok (of_eq_true m455.out) σ
theorem alive6 (σ : St) : ACall Tryz.prog TT 6 [] σ fun v σ' => v = .bool true ∧ σ' = σ := memo_of call5_ok (of_eq_true m456.out) σ

theorem policy (n : Nat) (hn : n < 65536) (σ : St) (hb : σ.base ≤ σ.n) : ACall Tryz.prog TT 4 [.int .u16 n] σ fun v σ' => v = .bool true := by
  refine C_open (args := [.int .u16 n]) TT_ok ok4.fn (show 1 ≤ 78 by decide) ?_
  simp only [g4, Tryz.f4, Option.getD_some]
  refine A_seq (A_region TT_ok pe (fun _ => true) ?_)
  simp only [wOps, wOp, wMt, wPut_if, wPut_none, ev_const, ev_if, ev_func, upd_if, ofC, ofS, Nat.reduceLT, if_true, Nat.reduceEqDiff, if_false]
  refine A_then (fun env st => env 0 = .int .u16 n ∧ st.base ≤ st.n ∧ Has st (env 4) [.int .i64 2, .int .i64 9]) ?_ ?_
  · refine A_region TT_ok pe (fun _ => true) ?_
    simp only [wOps, wOp, wMt, wPut_if, wPut_none, ev_const, ev_if, ev_func, ofC, ofS, Nat.reduceLT, if_true, wCall, List.map_cons, List.map_nil, List.nil_append, List.append_nil]
    refine C_mono (src450 σ) fun v σ' ⟨hv, hσ⟩ => ?_
    subst hv; subst hσ
    simp only [wOps, wOp, wMt, wPut_if, wPut_none, ev_const, ev_if, ev_func, upd_if, ofC, ofS, Nat.reduceLT, if_true, Nat.reduceEqDiff, if_false, z36, z38, List.getElem?_cons_zero, List.getElem?_cons_succ, push_n]
    refine ⟨by rw [sz36]; decide, by rw [sz38]; decide, ?_⟩
    refine two_store (K := fun st => _) hb (by decide) (by decide) ?_
    refine ⟨trivial, ?_, ?_, ?_⟩
    · simp [upd_if, env0]
    · exact two_base hb
    · exact two_has _ _ _
  rintro env1 st1 ⟨h0, hb1, g4⟩
  refine A_then (fun env st => env 0 = .int .u16 n ∧ st.base ≤ st.n ∧ Has st (env 4) [.int .i64 2, .int .i64 9] ∧ Has st (env 6) [.int .i64 2, .int .i64 10]) ?_ ?_
  · refine A_region TT_ok pe (fun _ => true) ?_
    simp only [wOps, wOp, wMt, wPut_if, wPut_none, ev_const, ev_if, ev_func, ofC, ofS, Nat.reduceLT, if_true, wCall, List.map_cons, List.map_nil, List.nil_append, List.append_nil]
    refine C_mono (src451 st1) fun v σ' ⟨hv, hσ⟩ => ?_
    subst hv; subst hσ
    simp only [wOps, wOp, wMt, wPut_if, wPut_none, ev_const, ev_if, ev_func, upd_if, ofC, ofS, Nat.reduceLT, if_true, Nat.reduceEqDiff, if_false, z36, z38, List.getElem?_cons_zero, List.getElem?_cons_succ, push_n]
    refine ⟨by rw [sz36]; decide, by rw [sz38]; decide, ?_⟩
    refine two_store (K := fun st => _) hb1 (by decide) (by decide) ?_
    refine ⟨trivial, ?_, ?_, ?_, ?_⟩
    · simp [upd_if, env0, h0]
    · exact two_base hb1
    · exact g4.grows (two_grows _ _ _)
    · exact two_has _ _ _
  rintro env2 st2 ⟨h0, hb2, g4, g6⟩
  refine A_then (fun env st => env 0 = .int .u16 n ∧ st.base ≤ st.n ∧ Has st (env 4) [.int .i64 2, .int .i64 9] ∧ Has st (env 6) [.int .i64 2, .int .i64 10] ∧ Has st (env 8) [.int .i64 1, .int .i64 10]) ?_ ?_
  · refine A_region TT_ok pe (fun _ => true) ?_
    simp only [wOps, wOp, wMt, wPut_if, wPut_none, ev_const, ev_if, ev_func, ofC, ofS, Nat.reduceLT, if_true, wCall, List.map_cons, List.map_nil, List.nil_append, List.append_nil]
    refine C_mono (src452 st2) fun v σ' ⟨hv, hσ⟩ => ?_
    subst hv; subst hσ
    simp only [wOps, wOp, wMt, wPut_if, wPut_none, ev_const, ev_if, ev_func, upd_if, ofC, ofS, Nat.reduceLT, if_true, Nat.reduceEqDiff, if_false, z36, z38, List.getElem?_cons_zero, List.getElem?_cons_succ, push_n]
    refine ⟨by rw [sz36]; decide, by rw [sz38]; decide, ?_⟩
    refine two_store (K := fun st => _) hb2 (by decide) (by decide) ?_
    refine ⟨trivial, ?_, ?_, ?_, ?_, ?_⟩
    · simp [upd_if, env0, h0]
    · exact two_base hb2
    · exact g4.grows (two_grows _ _ _)
    · exact g6.grows (two_grows _ _ _)
    · exact two_has _ _ _
  rintro env3 st3 ⟨h0, hb3, g4, g6, g8⟩
  refine A_then (fun env st => env 0 = .int .u16 n ∧ st.base ≤ st.n ∧ Has st (env 4) [.int .i64 2, .int .i64 9] ∧ Has st (env 6) [.int .i64 2, .int .i64 10] ∧ Has st (env 8) [.int .i64 1, .int .i64 10] ∧ Has st (env 10) [.int .i64 0, .int .i64 0]) ?_ ?_
  · refine A_region TT_ok pe (fun _ => true) ?_
    simp only [wOps, wOp, wMt, wPut_if, wPut_none, ev_const, ev_if, ev_func, ofC, ofS, Nat.reduceLT, if_true, wCall, List.map_cons, List.map_nil, List.nil_append, List.append_nil]
    refine C_mono (src453 st3) fun v σ' ⟨hv, hσ⟩ => ?_
    subst hv; subst hσ
    simp only [wOps, wOp, wMt, wPut_if, wPut_none, ev_const, ev_if, ev_func, upd_if, ofC, ofS, Nat.reduceLT, if_true, Nat.reduceEqDiff, if_false, z36, z38, List.getElem?_cons_zero, List.getElem?_cons_succ, push_n]
    refine ⟨by rw [sz36]; decide, by rw [sz38]; decide, ?_⟩
    refine two_store (K := fun st => _) hb3 (by decide) (by decide) ?_
    refine ⟨trivial, ?_, ?_, ?_, ?_, ?_, ?_⟩
    · simp [upd_if, env0, h0]
    · exact two_base hb3
    · exact g4.grows (two_grows _ _ _)
    · exact g6.grows (two_grows _ _ _)
    · exact g8.grows (two_grows _ _ _)
    · exact two_has _ _ _
  rintro env4 st4 ⟨h0, hb4, g4, g6, g8, g10⟩
  refine A_then (fun env st => env 0 = .int .u16 n ∧ st.base ≤ st.n ∧ Has st (env 4) [.int .i64 2, .int .i64 9] ∧ Has st (env 6) [.int .i64 2, .int .i64 10] ∧ Has st (env 8) [.int .i64 1, .int .i64 10] ∧ Has st (env 10) [.int .i64 0, .int .i64 0] ∧ Has st (env 12) [.int .i64 0, .int .i64 10]) ?_ ?_
  · refine A_region TT_ok pe (fun _ => true) ?_
    simp only [wOps, wOp, wMt, wPut_if, wPut_none, ev_const, ev_if, ev_func, ofC, ofS, Nat.reduceLT, if_true, wCall, List.map_cons, List.map_nil, List.nil_append, List.append_nil]
    refine C_mono (src454 st4) fun v σ' ⟨hv, hσ⟩ => ?_
    subst hv; subst hσ
    simp only [wOps, wOp, wMt, wPut_if, wPut_none, ev_const, ev_if, ev_func, upd_if, ofC, ofS, Nat.reduceLT, if_true, Nat.reduceEqDiff, if_false, z36, z38, List.getElem?_cons_zero, List.getElem?_cons_succ, push_n]
    refine ⟨by rw [sz36]; decide, by rw [sz38]; decide, ?_⟩
    refine two_store (K := fun st => _) hb4 (by decide) (by decide) ?_
    refine ⟨trivial, ?_, ?_, ?_, ?_, ?_, ?_, ?_⟩
    · simp [upd_if, env0, h0]
    · exact two_base hb4
    · exact g4.grows (two_grows _ _ _)
    · exact g6.grows (two_grows _ _ _)
    · exact g8.grows (two_grows _ _ _)
    · exact g10.grows (two_grows _ _ _)
    · exact two_has _ _ _
  rintro env5 st5 ⟨h0, hb5, g4, g6, g8, g10, g12⟩
  refine A_then (fun env st => env 0 = .int .u16 n ∧ st.base ≤ st.n ∧ Has st (env 4) [.int .i64 2, .int .i64 9] ∧ Has st (env 6) [.int .i64 2, .int .i64 10] ∧ Has st (env 8) [.int .i64 1, .int .i64 10] ∧ Has st (env 10) [.int .i64 0, .int .i64 0] ∧ Has st (env 12) [.int .i64 0, .int .i64 10] ∧ Has st (env 14) [.int .i64 2, .int .i64 9]) ?_ ?_
  · refine A_region TT_ok pe (fun _ => true) ?_
    simp only [wOps, wOp, wMt, wPut_if, wPut_none, ev_const, ev_if, ev_func, ofC, ofS, Nat.reduceLT, if_true, wCall, List.map_cons, List.map_nil, List.nil_append, List.append_nil]
    refine C_mono (src455 st5) fun v σ' ⟨hv, hσ⟩ => ?_
    subst hv; subst hσ
    simp only [wOps, wOp, wMt, wPut_if, wPut_none, ev_const, ev_if, ev_func, upd_if, ofC, ofS, Nat.reduceLT, if_true, Nat.reduceEqDiff, if_false, z36, z38, List.getElem?_cons_zero, List.getElem?_cons_succ, push_n]
    refine ⟨by rw [sz36]; decide, by rw [sz38]; decide, ?_⟩
    refine two_store (K := fun st => _) hb5 (by decide) (by decide) ?_
    refine ⟨trivial, ?_, ?_, ?_, ?_, ?_, ?_, ?_, ?_⟩
    · simp [upd_if, env0, h0]
    · exact two_base hb5
    · exact g4.grows (two_grows _ _ _)
    · exact g6.grows (two_grows _ _ _)
    · exact g8.grows (two_grows _ _ _)
    · exact g10.grows (two_grows _ _ _)
    · exact g12.grows (two_grows _ _ _)
    · exact two_has _ _ _
  rintro env6 st6 ⟨h0, hb6, g4, g6, g8, g10, g12, g14⟩
  refine A_seq (A_region TT_ok pe (fun _ => false) ?_)
  refine ops_none rfl ?_
  simp only [wOp, wMt, wPut_if, wPut_none, ev_const, ev_if, ev_func, upd_if, ofC, ofS, Nat.reduceLT, if_true, Nat.reduceEqDiff, if_false, h0]
  refine load38 g4 ?_
  try simp only [wPut_if, Nat.reduceLT, if_true]
  refine ops_none rfl ?_
  simp only [wOp, List.map_cons, List.map_nil, ev_const, ofC, ofS]
  refine build38 ?_
  try simp only [wPut_if, Nat.reduceLT, if_true]
  refine ops_none rfl ?_
  simp only [wOp, wMt, wPut_if, wPut_none, ev_const, ev_if, ev_func, upd_if, ofC, ofS, Nat.reduceLT, if_true, Nat.reduceEqDiff, if_false, h0]
  refine eq38 ?_
  try simp only [wPut_if, Nat.reduceLT, if_true]
  refine ops_none rfl ?_
  simp only [wOp, wMt, wPut_if, wPut_none, ev_const, ev_if, ev_func, upd_if, ofC, ofS, Nat.reduceLT, if_true, Nat.reduceEqDiff, if_false, h0]
  refine ops_yes (d := 42) rfl rfl rfl (by simp only [upd_if, Nat.reduceEqDiff, if_true, if_false]) ?_
  simp only [wOp, wMt, wPut_if, wPut_none, ev_const, ev_if, ev_func, upd_if, ofC, ofS, Nat.reduceLT, if_true, Nat.reduceEqDiff, if_false, h0]
  refine load38 g6 ?_
  try simp only [wPut_if, Nat.reduceLT, if_true]
  refine ops_yes (d := 42) rfl rfl rfl (by simp only [upd_if, Nat.reduceEqDiff, if_true, if_false]) ?_
  simp only [wOp, List.map_cons, List.map_nil, ev_const, ofC, ofS]
  refine build38 ?_
  try simp only [wPut_if, Nat.reduceLT, if_true]
  refine ops_yes (d := 42) rfl rfl rfl (by simp only [upd_if, Nat.reduceEqDiff, if_true, if_false]) ?_
  simp only [wOp, wMt, wPut_if, wPut_none, ev_const, ev_if, ev_func, upd_if, ofC, ofS, Nat.reduceLT, if_true, Nat.reduceEqDiff, if_false, h0]
  refine eq38 ?_
  try simp only [wPut_if, Nat.reduceLT, if_true]
  refine ops_none rfl ?_
  simp only [wOp, wMt, wPut_if, wPut_none, ev_const, ev_if, ev_func, upd_if, ofC, ofS, Nat.reduceLT, if_true, Nat.reduceEqDiff, if_false, h0]
  refine ops_none rfl ?_
  simp only [wOp, wMt, wPut_if, wPut_none, ev_const, ev_if, ev_func, upd_if, ofC, ofS, Nat.reduceLT, if_true, Nat.reduceEqDiff, if_false, h0]
  refine ops_yes (d := 47) rfl rfl rfl (by simp only [upd_if, Nat.reduceEqDiff, if_true, if_false]) ?_
  simp only [wOp, wMt, wPut_if, wPut_none, ev_const, ev_if, ev_func, upd_if, ofC, ofS, Nat.reduceLT, if_true, Nat.reduceEqDiff, if_false, h0]
  refine load38 g8 ?_
  try simp only [wPut_if, Nat.reduceLT, if_true]
  refine ops_yes (d := 47) rfl rfl rfl (by simp only [upd_if, Nat.reduceEqDiff, if_true, if_false]) ?_
  simp only [wOp, List.map_cons, List.map_nil, ev_const, ofC, ofS]
  refine build38 ?_
  try simp only [wPut_if, Nat.reduceLT, if_true]
  refine ops_yes (d := 47) rfl rfl rfl (by simp only [upd_if, Nat.reduceEqDiff, if_true, if_false]) ?_
  simp only [wOp, wMt, wPut_if, wPut_none, ev_const, ev_if, ev_func, upd_if, ofC, ofS, Nat.reduceLT, if_true, Nat.reduceEqDiff, if_false, h0]
  refine eq38 ?_
  try simp only [wPut_if, Nat.reduceLT, if_true]
  refine ops_none rfl ?_
  simp only [wOp, wMt, wPut_if, wPut_none, ev_const, ev_if, ev_func, upd_if, ofC, ofS, Nat.reduceLT, if_true, Nat.reduceEqDiff, if_false, h0]
  refine ops_none rfl ?_
  simp only [wOp, wMt, wPut_if, wPut_none, ev_const, ev_if, ev_func, upd_if, ofC, ofS, Nat.reduceLT, if_true, Nat.reduceEqDiff, if_false, h0]
  refine ops_yes (d := 52) rfl rfl rfl (by simp only [upd_if, Nat.reduceEqDiff, if_true, if_false]) ?_
  simp only [wOp, wMt, wPut_if, wPut_none, ev_const, ev_if, ev_func, upd_if, ofC, ofS, Nat.reduceLT, if_true, Nat.reduceEqDiff, if_false, h0]
  refine fa38 g10 fun p hp => ?_
  try simp only [wPut_if, Nat.reduceLT, if_true]
  refine ops_yes (d := 52) rfl rfl rfl (by simp only [upd_if, Nat.reduceEqDiff, if_true, if_false]) ?_
  simp only [wOp, wMt, wPut_if, wPut_none, ev_const, ev_if, ev_func, upd_if, ofC, ofS, Nat.reduceLT, if_true, Nat.reduceEqDiff, if_false, h0]
  refine ld24 hp ?_
  try simp only [wPut_if, Nat.reduceLT, if_true]
  refine ops_yes (d := 52) rfl rfl rfl (by simp only [upd_if, Nat.reduceEqDiff, if_true, if_false]) ?_
  simp only [wOp, wMt, wPut_if, wPut_none, ev_const, ev_if, ev_func, upd_if, ofC, ofS, Nat.reduceLT, if_true, Nat.reduceEqDiff, if_false, h0]
  simp only [wBin, sameInt, intBin, wPut_if, Nat.reduceLT, if_true, beq_self_eq_true]
  refine ops_none rfl ?_
  simp only [wOp, wMt, wPut_if, wPut_none, ev_const, ev_if, ev_func, upd_if, ofC, ofS, Nat.reduceLT, if_true, Nat.reduceEqDiff, if_false, h0]
  refine ops_none rfl ?_
  simp only [wOp, wMt, wPut_if, wPut_none, ev_const, ev_if, ev_func, upd_if, ofC, ofS, Nat.reduceLT, if_true, Nat.reduceEqDiff, if_false, h0]
  refine ops_yes (d := 57) rfl rfl rfl (by simp only [upd_if, Nat.reduceEqDiff, if_true, if_false]) ?_
  simp only [wOp, wMt, wPut_if, wPut_none, ev_const, ev_if, ev_func, upd_if, ofC, ofS, Nat.reduceLT, if_true, Nat.reduceEqDiff, if_false, h0]
  refine load38 g12 ?_
  try simp only [wPut_if, Nat.reduceLT, if_true]
  refine ops_yes (d := 57) rfl rfl rfl (by simp only [upd_if, Nat.reduceEqDiff, if_true, if_false]) ?_
  simp only [wOp, List.map_cons, List.map_nil, ev_const, ofC, ofS]
  refine build38b ?_
  try simp only [wPut_if, Nat.reduceLT, if_true]
  refine ops_yes (d := 57) rfl rfl rfl (by simp only [upd_if, Nat.reduceEqDiff, if_true, if_false]) ?_
  simp only [wOp, wMt, wPut_if, wPut_none, ev_const, ev_if, ev_func, upd_if, ofC, ofS, Nat.reduceLT, if_true, Nat.reduceEqDiff, if_false, h0]
  refine eq38 ?_
  try simp only [wPut_if, Nat.reduceLT, if_true]
  refine ops_none rfl ?_
  simp only [wOp, wMt, wPut_if, wPut_none, ev_const, ev_if, ev_func, upd_if, ofC, ofS, Nat.reduceLT, if_true, Nat.reduceEqDiff, if_false, h0]
  refine ops_none rfl ?_
  simp only [wOp, wMt, wPut_if, wPut_none, ev_const, ev_if, ev_func, upd_if, ofC, ofS, Nat.reduceLT, if_true, Nat.reduceEqDiff, if_false, h0]
  refine ops_yes (d := 62) rfl rfl rfl (by simp only [upd_if, Nat.reduceEqDiff, if_true, if_false]) ?_
  simp only [wOp, wMt, wPut_if, wPut_none, ev_const, ev_if, ev_func, upd_if, ofC, ofS, Nat.reduceLT, if_true, Nat.reduceEqDiff, if_false, h0]
  refine load38 g14 ?_
  try simp only [wPut_if, Nat.reduceLT, if_true]
  refine ops_yes (d := 62) rfl rfl rfl (by simp only [upd_if, Nat.reduceEqDiff, if_true, if_false]) ?_
  simp only [wOp, List.map_cons, List.map_nil, ev_const, ofC, ofS]
  refine build38 ?_
  try simp only [wPut_if, Nat.reduceLT, if_true]
  refine ops_yes (d := 62) rfl rfl rfl (by simp only [upd_if, Nat.reduceEqDiff, if_true, if_false]) ?_
  simp only [wOp, wMt, wPut_if, wPut_none, ev_const, ev_if, ev_func, upd_if, ofC, ofS, Nat.reduceLT, if_true, Nat.reduceEqDiff, if_false, h0]
  refine eq38 ?_
  try simp only [wPut_if, Nat.reduceLT, if_true]
  refine ops_none rfl ?_
  simp only [wOp, wMt, wPut_if, wPut_none, ev_const, ev_if, ev_func, upd_if, ofC, ofS, Nat.reduceLT, if_true, Nat.reduceEqDiff, if_false, h0]
  refine ops_none rfl ?_
  simp only [wOp, wMt, wPut_if, wPut_none, ev_const, ev_if, ev_func, upd_if, ofC, ofS, Nat.reduceLT, if_true, Nat.reduceEqDiff, if_false, h0]
  refine ops_yes (d := 67) rfl rfl rfl (by simp only [upd_if, Nat.reduceEqDiff, if_true, if_false]) ?_
  simp only [wOp, wMt, wPut_if, wPut_none, ev_const, ev_if, ev_func, upd_if, ofC, ofS, Nat.reduceLT, if_true, Nat.reduceEqDiff, if_false, h0]
  refine ops_yes (d := 67) rfl rfl rfl (by simp only [upd_if, Nat.reduceEqDiff, if_true, if_false]) ?_
  simp only [wOp, wMt, wPut_if, wPut_none, ev_const, ev_if, ev_func, upd_if, ofC, ofS, Nat.reduceLT, if_true, Nat.reduceEqDiff, if_false, h0]
  simp only [wCall, ev_func, List.map_cons, List.map_nil, List.nil_append, List.append_nil, ev_if, upd_if, Nat.reduceLT, if_true, Nat.reduceEqDiff, if_false, h0]
  refine C_mono (lab9 n hn st6) fun v σ' ⟨hv, hσ⟩ => ?_
  subst hv; subst hσ
  try simp only [wPut_if, Nat.reduceLT, if_true]
  refine ops_yes (d := 67) rfl rfl rfl (by simp only [upd_if, Nat.reduceEqDiff, if_true, if_false]) ?_
  simp only [wOp, wMt, wPut_if, wPut_none, ev_const, ev_if, ev_func, upd_if, ofC, ofS, Nat.reduceLT, if_true, Nat.reduceEqDiff, if_false, h0]
  refine ops_yes (d := 67) rfl rfl rfl (by simp only [upd_if, Nat.reduceEqDiff, if_true, if_false]) ?_
  simp only [wOp, wMt, wPut_if, wPut_none, ev_const, ev_if, ev_func, upd_if, ofC, ofS, Nat.reduceLT, if_true, Nat.reduceEqDiff, if_false, h0]
  simp only [wConv, td22, td3]
  refine ⟨by simp, ?_⟩
  rw [wrap64 (by omega) (by omega)]
  try simp only [wPut_if, Nat.reduceLT, if_true]
  refine ops_yes (d := 67) rfl rfl rfl (by simp only [upd_if, Nat.reduceEqDiff, if_true, if_false]) ?_
  simp only [wOp, wMt, wPut_if, wPut_none, ev_const, ev_if, ev_func, upd_if, ofC, ofS, Nat.reduceLT, if_true, Nat.reduceEqDiff, if_false, h0]
  simp only [wCall, ev_func, List.map_cons, List.map_nil, List.nil_append, List.append_nil, ev_if, upd_if, Nat.reduceLT, if_true, Nat.reduceEqDiff, if_false, h0]
  refine C_mono (lab10 n hn _) fun v σ' ⟨hv, hσ⟩ => ?_
  subst hv; subst hσ
  try simp only [wPut_if, Nat.reduceLT, if_true]
  refine ops_yes (d := 67) rfl rfl rfl (by simp only [upd_if, Nat.reduceEqDiff, if_true, if_false]) ?_
  simp only [wOp, wMt, wPut_if, wPut_none, ev_const, ev_if, ev_func, upd_if, ofC, ofS, Nat.reduceLT, if_true, Nat.reduceEqDiff, if_false, h0]
  simp only [wBin, strBin, wPut_if, Nat.reduceLT, if_true, beq_self_eq_true]
  refine ops_none rfl ?_
  simp only [wOp, wMt, wPut_if, wPut_none, ev_const, ev_if, ev_func, upd_if, ofC, ofS, Nat.reduceLT, if_true, Nat.reduceEqDiff, if_false, h0]
  refine ops_none rfl ?_
  simp only [wOp, wMt, wPut_if, wPut_none, ev_const, ev_if, ev_func, upd_if, ofC, ofS, Nat.reduceLT, if_true, Nat.reduceEqDiff, if_false, h0]
  refine ops_yes (d := 75) rfl rfl rfl (by simp only [upd_if, Nat.reduceEqDiff, if_true, if_false]) ?_
  simp only [wOp, wMt, wPut_if, wPut_none, ev_const, ev_if, ev_func, upd_if, ofC, ofS, Nat.reduceLT, if_true, Nat.reduceEqDiff, if_false, h0]
  simp only [wCall, ev_func, List.map_cons, List.map_nil, List.nil_append, List.append_nil, ev_if, upd_if, Nat.reduceLT, if_true, Nat.reduceEqDiff, if_false, h0]
  refine C_mono (alive6 _) fun v σ' ⟨hv, hσ⟩ => ?_
  subst hv; subst hσ
  try simp only [wPut_if, Nat.reduceLT, if_true]
  refine ops_none rfl ?_
  simp only [wOp, wMt, wPut_if, wPut_none, ev_const, ev_if, ev_func, upd_if, ofC, ofS, Nat.reduceLT, if_true, Nat.reduceEqDiff, if_false, h0]
  refine ops_none rfl ?_
  simp only [wOp, wMt, wPut_if, wPut_none, ev_const, ev_if, ev_func, upd_if, ofC, ofS, Nat.reduceLT, if_true, Nat.reduceEqDiff, if_false, h0]
  refine ops_nil ?_
  refine A_ret ?_
  simp only [fnQ, wRes, upd_if, Nat.reduceLT, if_true, Nat.reduceEqDiff, if_false, tupA]
  trivial
end Go.Proofs.QQ
end
