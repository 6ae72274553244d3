/- A part of the proof that XlatePolicy returns true at every argument: the reader machine and this translation under it. Conditions: those that each theorem bears. -/
import Derived.Test.YtcdjeickpdlbfaaGreatDoorQ15
import Derived.Test.YtcdjeickpdlbfaaGreatDoorQ21
section
set_option maxRecDepth 100000
set_option linter.unusedVariables false
set_option linter.unusedSimpArgs false
namespace Go.Proofs.QQ
open Go

def hexc (d : Nat) : UInt8 := if d < 10 then (48 + d).toUInt8 else (55 + d).toUInt8
def dig (n j : Nat) : Nat := n / 2 ^ j % 16
def lab (n : Nat) : List UInt8 := [76, hexc (dig n 12), hexc (dig n 8), hexc (dig n 4), hexc (dig n 0)]

theorem td89 : TT.td 89 = .sl 5 := by kernel_rfl
theorem td9 : TT.td 9 = .str := by kernel_rfl
theorem td5 : TT.td 5 = .int .u8 := by kernel_rfl
theorem td3 : TT.td 3 = .int .i64 := by kernel_rfl
theorem td22 : TT.td 22 = .int .u16 := by kernel_rfl
theorem sz5 : TT.size 5 = 1 := by kernel_rfl
theorem by5 : TT.bytes 5 = 1 := by kernel_rfl
theorem z5 : zeroA TT 5 = [.int .u8 0] := by kernel_rfl

theorem dig_lt (n j : Nat) : dig n j < 16 := Nat.mod_lt _ (by decide)

theorem hex_at : ∀ i, i < 16 → ([48, 49, 50, 51, 52, 53, 54, 55, 56, 57, 65, 66, 67, 68, 69, 70] : List UInt8)[i]? = some (hexc i) := by decide

theorem dig_val (n j : Nat) (hn : n < 65536) (hj : j ≤ 16) : IntKind.u16.wrap (((((n : Int).fdiv (2 ^ (min ((j : Int)).toNat IntKind.u16.bits))) % 2 ^ IntKind.u16.bits).toNat &&& ((15 : Int) % 2 ^ IntKind.u16.bits).toNat : Nat) : Int) = (dig n j : Int) := by
  have hm : min ((j : Int)).toNat IntKind.u16.bits = j := by simp [IntKind.bits]; omega
  have hp : (0 : Int) ≤ 2 ^ j := Int.le_of_lt (Int.pow_pos (by decide))
  have e1 : (n : Int).fdiv (2 ^ j) = ((n / 2 ^ j : Nat) : Int) := by
    rw [Int.fdiv_eq_ediv_of_nonneg _ hp]
    simp
  rw [hm, e1]
  show _ = ((n / 2 ^ j % 16 : Nat) : Int)
  have hlt : n / 2 ^ j < 65536 := Nat.lt_of_le_of_lt (Nat.div_le_self _ _) hn
  generalize n / 2 ^ j = q at hlt ⊢
  have e2 : (((q : Nat) : Int) % 2 ^ IntKind.u16.bits).toNat = q := by
    show (((q : Nat) : Int) % 65536).toNat = q
    omega
  have e3 : ((15 : Int) % 2 ^ IntKind.u16.bits).toNat = 15 := by decide
  rw [e2, e3]
  have e4 : q &&& 15 = q % 16 := Nat.and_two_pow_sub_one_eq_mod q 4
  rw [e4]
  have hq : q % 16 < 16 := Nat.mod_lt _ (by decide)
  show IntKind.u16.wrap ((q % 16 : Nat) : Int) = _
  generalize q % 16 = r at hq ⊢
  have e5 : IntKind.u16.wrap (r : Int) = (r : Int) % 65536 := rfl
  rw [e5]
  omega

theorem wrap64 {x : Int} (h1 : -9223372036854775808 ≤ x) (h2 : x < 9223372036854775808) : IntKind.i64.wrap x = x := by
  have e : IntKind.i64.wrap x = if (true && decide (x % 18446744073709551616 ≥ 9223372036854775808)) = true then x % 18446744073709551616 - 18446744073709551616 else x % 18446744073709551616 := rfl
  rw [e]
  simp only [Bool.true_and, decide_eq_true_eq]
  split <;> omega

theorem bs1 {mt : Bool} {c : Int} {σ : St} {K : AV → St → Prop} : wBuildSlice TT mt 89 1 [(0, .int .u8 c)] σ K = wRow mt true (some 5) 1 1 [.int .u8 c] σ K := by
  simp [wBuildSlice, td89, sz5, z5, fillA, repA, cellsA, put]

theorem row_mt {ty : Option TypeId} {full : Bool} {len esz : Nat} {cells : List AV} {σ : St} {K : AV → St → Prop} : wRow true full ty len esz cells σ K = K (.ms σ.n 0 0 len esz) (σ.push (.row cells 0 0) ty) := rfl
theorem row_im {ty : Option TypeId} {c : Int} {σ : St} {K : AV → St → Prop} : wRow false true ty 1 1 [.int .u8 c] σ K = K (.sl true 1 [.int .u8 c]) σ := rfl

theorem app1 {o g len : Nat} {c : Int} {pre : List AV} {σ : St} {K : AV → St → Prop} (ho : o < σ.n) (hb : σ.base ≤ o) (hl : len ≤ 1000) (hp : pre.length = len) (hx : σ.at_ o = .row pre g 0)
    (h : K (.ms o (g + 1) 0 (len + 1) 1) (σ.setT o (.row (pre ++ [.int .u8 c]) (g + 1) 0) (keepTy σ o 5))) : wAppend TT 89 (.ms o g 0 len 1) (.sl true 1 [.int .u8 c]) σ K := by
  simp only [wAppend, td89, sz5, by5, srcA]
  refine ⟨by decide, by decide, [.int .u8 c], rfl, rfl, rfl, .inr ⟨by decide, trivial, trivial, by omega, pre, 0, ho, hb, hx, Nat.zero_le _, by omega, ?_⟩⟩
  have e : pre.take (len * 1) = pre := List.take_of_length_le (by omega)
  rw [e]
  exact h

theorem lab9 (n : Nat) (hn : n < 65536) (σ : St) : ACall Tryz.prog TT 9 [.int .u16 n] σ fun v σ' => v = .str (lab n) ∧ σ' = σ := by
  refine C_scoped (args := [.int .u16 n]) TT_ok ok9.fn (show 1 ≤ 20 by decide) ?_
  simp only [g9, Tryz.f9, Option.getD_some]
  refine A_seq (A_region TT_ok pe (fun d => d == 5) ?_)
  simp only [wOps, wOp, wMt, wPut_if, ev_const, ofC, ofS, Nat.reduceLT, if_true]
  refine A_seq (A_region TT_ok pe (fun d => d == 5) ?_)
  simp only [wOps, wOp, wMt, wPut_if, ev_const, ev_if, upd_if, ofC, ofS, Nat.reduceLT, if_true, List.map_cons, List.map_nil, bs1, beq_self_eq_true, row_mt, bar_n]
  refine A_seq (A_seq (A_region TT_ok pe (fun d => d == 5) ?_))
  simp only [wOps, wOp, wMt, wPut_if, ev_const, ev_if, upd_if, ofC, ofS, Nat.reduceLT, if_true]
  refine A_block ?_
  refine A_loop (fun m env st => ∃ k, k ≤ 4 ∧ m = 4 - k ∧ env 0 = .int .u16 n ∧ env 3 = .ms σ.n k 0 (k + 1) 1 ∧ env 4 = .int .i64 (12 - 4 * (k : Int)) ∧ st.n = σ.n + 1 ∧ st.base = σ.n ∧
    ∃ cells, st.at_ σ.n = .row (cells.map byteA) k 0 ∧ cells = (lab n).take (k + 1)) 4 ?_ ?_
  · refine ⟨0, by decide, rfl, ?_, ?_, ?_, rfl, rfl, [76], ?_, rfl⟩
    · simp [upd_if, env0]
    · simp [upd_if, env0]
    · simp [upd_if, env0]
    · have := push_at σ.bar (.row [.int .u8 76] 0 0) (some 5)
      exact this
  · rintro m env st ⟨k, hk, rfl, h0, h3, h4, hstn, hstb, cells, hat, hcells⟩
    refine A_seq (A_seq (A_region TT_ok pe (fun d => d == 5) ?_))
    simp only [wOps, wOp, wMt, wPut_if, ev_const, ev_if, upd_if, ofC, ofS, Nat.reduceLT, if_true, h4, wBin, sameInt, intBin]
    refine A_cond (b := decide ((0 : Int) ≤ 12 - 4 * (k : Int))) (by simp [ev_if, upd_if, intBin]) (fun ht => ?_) (fun hf => ?_)
    · have hk3 : k ≤ 3 := by have := of_decide_eq_true ht; omega
      refine A_skip ?_
      refine A_seq (A_block (A_region TT_ok pe (fun d => d == 5) ?_))
      have hd := dig_val n (12 - 4 * k) hn (by omega)
      have hsh : (12 - 4 * (k : Int)) = ((12 - 4 * k : Nat) : Int) := by omega
      simp only [wOps, wOp, wMt, wPut_if, ev_const, ev_if, upd_if, ofC, ofS, Nat.reduceLT, if_true, Nat.reduceEqDiff, if_false, h0, h3, h4, wBin, sameInt, intBin]
      refine ⟨by omega, ?_⟩
      rw [hsh, hd]
      simp only [wIndex, td9, wIdx]
      refine ⟨dig n (12 - 4 * k), rfl, by have := dig_lt n (12 - 4 * k); simpa using this, hexc (dig n (12 - 4 * k)), hex_at _ (dig_lt _ _), ?_⟩
      simp only [List.map_cons, List.map_nil, ev_if, upd_if, Nat.reduceLT, if_true, Nat.reduceEqDiff, if_false, bs1, Nat.reduceBEq, row_im, wCall, wBuiltin, td89, byteA, true_and]
      refine app1 (by omega) (by rw [hstb]; exact Nat.le_refl _) (by omega) (by rw [hcells]; simp [lab]; omega) (hat) ?_
      refine A_region TT_ok pe (fun d => d == 5) ?_
      simp only [wOps, wOp, wMt, wPut_if, ev_const, ev_if, upd_if, ofC, ofS, Nat.reduceLT, if_true, Nat.reduceEqDiff, if_false, h0, h3, h4, wBin, sameInt, intBin]
      refine ⟨4 - (k + 1), by omega, k + 1, by omega, rfl, ?_, ?_, ?_, ?_, ?_, cells ++ [hexc (dig n (12 - 4 * k))], ?_, ?_⟩
      · simp [upd_if, h0]
      · simp [upd_if]
      · simp only [upd_if, Nat.reduceEqDiff, if_true, if_false]
        rw [wrap64 (by omega) (by omega)]
        congr 1
        omega
      · exact hstn
      · exact hstb
      · rw [setT_at]
        simp [byteA]
      · have : k = 0 ∨ k = 1 ∨ k = 2 ∨ k = 3 := by omega
        rcases this with rfl | rfl | rfl | rfl <;> (subst hcells; rfl)
    · have hk4 : k = 4 := by have := of_decide_eq_false hf; omega
      subst hk4
      refine A_exit ?_
      simp only [thenQ, roundQ, blockQ, if_true]
      refine A_seq (A_region TT_ok pe (fun d => d == 5) ?_)
      simp only [wOps, wOp, wMt, wPut_if, ev_const, ev_if, upd_if, ofC, ofS, Nat.reduceLT, if_true, Nat.reduceEqDiff, if_false, h0, h3, h4, Nat.reduceBEq, wConv, td89, td9, td5]
      refine ⟨by simp, ⟨5, rfl, td5⟩, _, _, by omega, hat, lab n, rfl, ?_, ?_⟩
      · rw [hcells, List.drop_zero, ← List.map_take]; rfl
      · refine A_ret ?_
        simp only [fnQ, wRes, upd_if, Nat.reduceLT, if_true, Nat.reduceEqDiff, if_false, tupA, wClean, wCleanV, wCleanS]
        exact ⟨trivial, trivial⟩

theorem hexc_toNat (d : Nat) (h : d < 16) : ((hexc d).toNat : Int) = if 9 < d then 55 + (d : Int) else 48 + d := by
  have : ∀ d, d < 16 → ((hexc d).toNat : Int) = if 9 < d then 55 + (d : Int) else 48 + d := by decide
  exact this d h

theorem wrap8 {x : Int} (h1 : 0 ≤ x) (h2 : x < 256) : IntKind.u8.wrap x = x := by
  have e : IntKind.u8.wrap x = x % 256 := rfl
  rw [e]; omega

theorem sl1 {c : Int} {σ : St} {K : AV → St → Prop} {u : UInt8} (hc : c = u.toNat) (h : K (.str [u]) σ) : wConv TT false 89 9 (.sl true 1 [.int .u8 c]) σ K := by
  simp only [wConv, td89, td9, td5]
  exact ⟨by simp, ⟨5, rfl, td5⟩, [u], rfl, by simp [byteA, hc], h⟩

theorem hex36 (n : Nat) (hn : n < 65536) (σ : St) : ACall Tryz.prog TT 36 [.int .i64 n] σ fun v σ' => v = .str ((lab n).drop 1) ∧ σ' = σ := by
  refine C_scoped (args := [.int .i64 n]) TT_ok ok36.fn (show 1 ≤ 30 by decide) ?_
  simp only [g36, Tryz.f36, Option.getD_some]
  refine A_seq (A_region TT_ok pe (fun d => false) ?_)
  simp only [wOps, wOp, wMt, wPut_if, ev_const, ofC, ofS, Nat.reduceLT, if_true]
  refine A_seq (A_region TT_ok pe (fun d => false) ?_)
  simp only [wOps, wOp, wMt, wPut_if, ev_const, ofC, ofS, Nat.reduceLT, if_true]
  refine A_seq (A_seq (A_region TT_ok pe (fun d => false) ?_))
  simp only [wOps, wOp, wMt, wPut_if, ev_const, ev_if, upd_if, ofC, ofS, Nat.reduceLT, if_true]
  refine A_block ?_
  refine A_loop (fun m env st => ∃ k, k ≤ 4 ∧ m = 4 - k ∧ env 0 = .int .i64 ((n / 16 ^ k : Nat) : Int) ∧ env 3 = .str ((lab n).drop (5 - k)) ∧ env 4 = .int .i64 (k : Int) ∧ st = σ.bar) 4 ?_ ?_
  · refine ⟨0, by decide, rfl, ?_, ?_, ?_, rfl⟩
    · simp [upd_if, env0]
    · simp [upd_if, env0, lab]
    · simp [upd_if, env0]
  · rintro m env st ⟨k, hk, rfl, h0, h3, h4, rfl⟩
    refine A_seq (A_seq (A_region TT_ok pe (fun d => false) ?_))
    simp only [wOps, wOp, wMt, wPut_if, ev_const, ev_if, upd_if, ofC, ofS, Nat.reduceLT, if_true, h4, wBin, sameInt, intBin]
    refine A_cond (b := decide ((k : Int) < 4)) (by simp [ev_if, upd_if, intBin]) (fun ht => ?_) (fun hf => ?_)
    · have hk3 : k ≤ 3 := by have := of_decide_eq_true ht; omega
      have hqlt : n / 16 ^ k < 65536 := Nat.lt_of_le_of_lt (Nat.div_le_self _ _) hn
      have hdig : dig n (4 * k) = n / 16 ^ k % 16 := by
        unfold dig
        rw [show (2 : Nat) ^ (4 * k) = 16 ^ k by rw [Nat.pow_mul]]
      have hnext : n / 16 ^ (k + 1) = n / 16 ^ k / 16 := by rw [Nat.pow_succ, Nat.div_div_eq_div_mul]
      have hd16 := dig_lt n (4 * k)
      have hc := hexc_toNat _ hd16
      have hdrop : (hexc (dig n (4 * k))) :: (lab n).drop (5 - k) = (lab n).drop (5 - (k + 1)) := by
        have : k = 0 ∨ k = 1 ∨ k = 2 ∨ k = 3 := by omega
        rcases this with rfl | rfl | rfl | rfl <;> rfl
      generalize hq : n / 16 ^ k = q at *
      refine A_skip ?_
      refine A_seq (A_block (A_seq (A_region TT_ok pe (fun d => false) ?_)))
      simp only [wOps, wOp, wMt, wPut_if, ev_const, ev_if, upd_if, ofC, ofS, Nat.reduceLT, if_true, Nat.reduceEqDiff, if_false, h0, h3, h4, wBin, sameInt, intBin]
      have hmod : (q : Int).tmod 16 = (dig n (4 * k) : Int) := by
        rw [hdig, Int.tmod_eq_emod_of_nonneg (by omega)]; omega
      have hquo : (q : Int).tdiv 16 = ((q / 16 : Nat) : Int) := by
        rw [Int.tdiv_eq_ediv_of_nonneg (by omega)]; omega
      generalize hd : dig n (4 * k) = d at *
      rw [hmod, wrap64 (by omega) (by omega)]
      refine ⟨trivial, by decide, ?_⟩
      simp only [wConv, td3, td5]
      refine ⟨by simp, ?_⟩
      rw [wrap8 (by omega) (by omega)]
      refine A_then (fun env st => env 0 = .int .i64 q ∧ env 3 = .str ((lab n).drop (5 - k)) ∧ env 4 = .int .i64 (k : Int) ∧ env 5 = .int .u8 ((hexc d).toNat : Int) ∧ st = σ.bar) ?_ ?_
      · refine A_seq (A_region TT_ok pe (fun d => false) ?_)
        simp only [wOps, wOp, wMt, wPut_if, ev_const, ev_if, upd_if, ofC, ofS, Nat.reduceLT, if_true, Nat.reduceEqDiff, if_false, h0, h3, h4, wBin, sameInt, intBin, hmod]
        refine ⟨trivial, by decide, ?_⟩
        refine A_cond (b := decide ((d : Int) > 9)) (by simp [ev_if, upd_if]) (fun ht => ?_) (fun hf => ?_)
        · have h9 : 9 < d := by have := of_decide_eq_true ht; omega
          refine A_region TT_ok pe (fun d => false) ?_
          simp only [wOps, wOp, wMt, wPut_if, ev_const, ev_if, upd_if, ofC, ofS, Nat.reduceLT, if_true, Nat.reduceEqDiff, if_false, h0, h3, h4, wBin, sameInt, intBin, hmod, wConv, td3, td5]
          rw [wrap64 (x := 65 + (d : Int)) (by omega) (by omega), wrap64 (by omega) (by omega), wrap8 (by omega) (by omega)]
          refine ⟨trivial, by decide, by simp, trivial, ?_, ?_, ?_, ?_, trivial⟩
          · simp [upd_if, h0]
          · simp [upd_if, h3]
          · simp [upd_if, h4]
          · rw [hc, if_pos h9]
            congr 1
            omega
        · have h9 : ¬ 9 < d := by have := of_decide_eq_false hf; omega
          refine A_skip ⟨rfl, ?_, ?_, ?_, ?_, rfl⟩
          · simp [upd_if, h0]
          · simp [upd_if, h3]
          · simp [upd_if, h4]
          · simp only [upd_if, Nat.reduceEqDiff, if_true, if_false]
            rw [hc, if_neg h9]
      · rintro env2 st2 ⟨g0, g3, g4, g5, rfl⟩
        refine A_seq (A_region TT_ok pe (fun d => false) ?_)
        simp only [wOps, wOp, wMt, wPut_if, ev_const, ev_if, upd_if, ofC, ofS, Nat.reduceLT, if_true, Nat.reduceEqDiff, if_false, g0, g3, g4, g5, List.map_cons, List.map_nil, bs1, row_im]
        refine sl1 rfl ?_
        simp only [wPut_if, wBin, ev_if, upd_if, Nat.reduceLT, if_true, Nat.reduceEqDiff, if_false, g3]
        refine ⟨by simp [lab]; omega, ?_⟩
        refine A_region TT_ok pe (fun d => false) ?_
        simp only [wOps, wOp, wMt, wPut_if, ev_const, ev_if, upd_if, ofC, ofS, Nat.reduceLT, if_true, Nat.reduceEqDiff, if_false, g0, g3, g4, g5, wBin, sameInt, hquo]
        rw [wrap64 (by omega) (by omega)]
        refine ⟨trivial, by decide, ?_⟩
        refine A_region TT_ok pe (fun d => false) ?_
        simp only [wOps, wOp, wMt, wPut_if, ev_const, ev_if, upd_if, ofC, ofS, Nat.reduceLT, if_true, Nat.reduceEqDiff, if_false, g0, g3, g4, g5, wBin, sameInt, intBin]
        rw [wrap64 (by omega) (by omega)]
        refine ⟨4 - (k + 1), by omega, k + 1, by omega, rfl, ?_, ?_, ?_, rfl⟩
        · simp only [upd_if, Nat.reduceEqDiff, if_true, if_false]
          rw [hnext]
        · simp only [upd_if, Nat.reduceEqDiff, if_true, if_false]
          rw [← hdrop]; rfl
        · simp only [upd_if, if_true]
          congr 1
    · have hk4 : k = 4 := by have := of_decide_eq_false hf; omega
      subst hk4
      refine A_exit ?_
      simp only [thenQ, roundQ, blockQ, if_true]
      refine A_seq (A_region TT_ok pe (fun d => false) ?_)
      simp only [wOps, wOp, wMt, wPut_if, ev_const, ev_if, upd_if, ofC, ofS, Nat.reduceLT, if_true, Nat.reduceEqDiff, if_false, h0, h3, h4]
      refine A_ret ?_
      simp only [fnQ, wRes, upd_if, Nat.reduceLT, if_true, Nat.reduceEqDiff, if_false, tupA, wClean, wCleanV, wCleanS]
      exact ⟨trivial, trivial⟩

theorem lab10 (n : Nat) (hn : n < 65536) (σ : St) : ACall Tryz.prog TT 10 [.int .i64 n] σ fun v σ' => v = .str (lab n) ∧ σ' = σ := by
  refine C_open (args := [.int .i64 n]) TT_ok ok10.fn (show 1 ≤ 6 by decide) ?_
  simp only [g10, Tryz.f10, Option.getD_some]
  refine A_seq (A_region TT_ok pe (fun d => false) ?_)
  simp only [wOps, wOp, wMt, wPut_if, ev_const, ofC, ofS, Nat.reduceLT, if_true]
  refine A_seq (A_region TT_ok pe (fun d => false) ?_)
  simp only [wOps, wOp, wMt, wPut_if, ev_const, ev_if, ev_func, upd_if, ofC, ofS, Nat.reduceLT, if_true, Nat.reduceEqDiff, if_false, wCall, List.map_cons, List.map_nil, List.nil_append, List.append_nil]
  have e0 : env0 [AV.int IntKind.i64 (n : Int)] 0 = .int .i64 n := rfl
  simp only [e0]
  refine C_mono (hex36 n hn σ) fun v σ' ⟨hv, hσ⟩ => ?_
  subst hv; subst hσ
  simp only [wBin, wPut_if, ev_if, upd_if, Nat.reduceLT, if_true, Nat.reduceEqDiff, if_false]
  refine ⟨by simp [lab], ?_⟩
  refine A_ret ?_
  simp only [fnQ, wRes, upd_if, Nat.reduceLT, if_true, Nat.reduceEqDiff, if_false, tupA]
  exact ⟨by first | trivial | rfl, by first | trivial | rfl⟩

end Go.Proofs.QQ
end
