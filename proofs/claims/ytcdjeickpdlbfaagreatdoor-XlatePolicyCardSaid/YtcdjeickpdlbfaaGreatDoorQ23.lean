/- A part of the proof that XlatePolicy returns true at every argument: the reader machine and this translation under it. Conditions: those that each theorem bears. -/
import Derived.Test.YtcdjeickpdlbfaaGreatDoorQ22
import Derived.Test.YtcdjeickpdlbfaaGreatDoorQ15
import Derived.Test.YtcdjeickpdlbfaaGreatDoorQ21
import Derived.WalkKit
section
set_option maxRecDepth 100000
set_option linter.unusedVariables false
set_option linter.unusedSimpArgs false
namespace Go.Proofs.QQ
open Go

noncomputable def extImage : Ext := fun args x K =>
  match args with
  | [] => x.pushO False (.big segI [] 0 0 (some 296)) fun o x' => K (.ptr o 0 0) x'
  | _ => False

theorem td296 : TT.td 296 = .st [(0, 293), (65536, 294)] := by kernel_rfl
theorem sz296 : TT.size 296 = 66560 := by kernel_rfl
theorem sz293 : TT.size 293 = 65536 := by kernel_rfl
theorem sz294 : TT.size 294 = 1024 := by kernel_rfl
theorem zero296 : zeroA TT 296 = baseCells segI := TT_ok.big 296 segI (by kernel_rfl)

theorem image_ok : ExtOk Tryz.prog TT 175 extImage := fun args x K hx => by
  unfold extImage at hx
  split at hx
  case h_2 => exact hx.elim
  obtain ⟨x', hk, hx'⟩ := X.pushO_st hx
  have hpush : x'.st = x.st.push (.row (baseCells segI) 0 0) (some 296) := hx'
  have hres : GoOn K (.ptr x.st.n 0 0) (x.st.push (.row (baseCells segI) 0 0) (some 296)) := ⟨x', hpush, hk⟩
  generalize GoOn K = R at hres ⊢
  generalize x.st = σ at hres ⊢
  clear hk hx hpush hx'
  refine C_open (args := []) TT_ok ok175.fn (Nat.zero_le _) ?_
  simp only [g175, Tryz.f175, Option.getD_some]
  refine A_seq (A_region TT_ok pe (fun _ => true) ?_)
  simp only [wOps, wOp, wMt, wPut_if, ev_const, ofC, ofS, Nat.reduceLT, if_true]
  refine A_seq (A_region TT_ok pe (fun _ => true) ?_)
  have e1 : (66560 : Nat) ≠ 0 := by decide
  simp only [wOps, wOp, wMt, wPut_if, ev_const, ev_if, upd_if, ofC, ofS, Nat.reduceLT, if_true, wBuild, td296, sz296, zero296, fillA, List.map_nil, cellsA, List.all_cons, List.all_nil, sz293, sz294]
  refine ⟨e1, by decide, ?_⟩
  refine A_ret ?_
  simp only [fnQ, wRes, upd_if, tupA]
  exact hres

set_option maxHeartbeats 400000 in
theorem walk64 (i : Int) (w : World) : Calls Tryz.prog 64 #[.int .i64 i] w fun e w' => e = .returned (.iface 127 (.agg #[])) ∧ w' = w := by
  have hb : (Instr.build 127 #[]).run Tryz.prog w = .ok (.agg #[]) w := by kernel_rfl
  go_enter Tryz.func64, Tryz.ntmps64
  go_wp2
  go_ret
  exact ⟨rfl, rfl⟩

noncomputable def extTongue : Ext := fun args x K =>
  match args with
  | [.int .i64 _] => K (.ifc 127 (.agg [])) x
  | _ => False

theorem tongue_ok : ExtOk Tryz.prog TT 64 extTongue := fun args x K hx => by
  unfold extTongue at hx
  split at hx
  case h_2 => exact hx.elim
  intro γ w cargs hr hl hv
  obtain ⟨v, hcs, hv1⟩ := args_one hl hv
  cases hv1
  rw [hcs, enter_run (P := Tryz.prog) (f := 64) (c := (Tryz.f64.body).getD .skip) (N := Tryz.f64.ntmps) (rs := Tryz.f64.results.toList) ok64.fn]
  refine Calls.mono (walk64 _ w) fun e w' ⟨he, hw⟩ => ⟨_, he, .ifc 127 (.agg []), x.st, γ, .ifc _ _ _ (.agg [] #[] rfl fun i h => absurd h (Nat.not_lt_zero _)), hw ▸ Step.refl _ _ _, hw ▸ hr, rfl, x, rfl, hx⟩

noncomputable def ext2 : NT Ext := .node 178 (.node 111 (.leaf 64 extTongue) (.node 131 (.leaf 111 extCount) (.node 175 (.leaf 131 extSame) (.leaf 175 extImage)))) (.node 211 (.leaf 178 extSorted) (.node 214 (.leaf 211 (extMake 5)) (.node 226 (.leaf 214 extDelete) (.leaf 226 extIndex))))
theorem ext2_ok : ext2.All (ExtOk Tryz.prog TT) := And.intro (And.intro tongue_ok (And.intro e111 (And.intro e131 image_ok))) (And.intro sorted_ok (And.intro e211 (And.intro delete_ok e226)))

end Go.Proofs.QQ
end
section
set_option maxRecDepth 100000
namespace Go.Proofs.QQ
open Go
noncomputable def memos0 : NT MemoT := .no
theorem memos0_ok : memos0.All (MemoOk Tryz.prog TT) := trivial
noncomputable def call0 : Caller := seatCall TT fns ext0 memos0 300 60
theorem call0_ok : CallOk Tryz.prog TT call0 := seatCall_ok TT_ok pe mixed fns_ok ext0_ok memos0_ok 300 60
end Go.Proofs.QQ
end
