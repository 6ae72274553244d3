/- A part of the proof that XlatePolicy returns true at every argument: the reader machine and this translation under it. Conditions: those that each theorem bears. -/
import Derived.Test.YtcdjeickpdlbfaaGreatDoorQ42
import Derived.Test.YtcdjeickpdlbfaaGreatDoorRows
import Derived.Test.YtcdjeickpdlbfaaGreatDoorCards
import Derived.Test.YtcdjeickpdlbfaaGreatDoorTie
import Derived.ProofKit
import Derived.OpenShut
import Derived.LaidMore
import Derived.Lay
import Derived.SevenTiedAt
import Derived.Stop.Joined
section
set_option linter.unusedVariables false
set_option maxRecDepth 100000
namespace Go.Proofs.QQ
open Go Go.ChangeShapes Go.WideShapes Go.ChangeAt Go.RowKit
open Go.Proofs.YtcdjeickpdlbfaaGreatDoor

theorem own : ownKnob Tryz.prog.godebug = none := by kernel_rfl

/-- What the four listed variables hold. -/
noncomputable abbrev laid4 : List (String × DataW Unit) := Rows.xlatePolicyRow.laid

def isSp (i : Nat) : Int := match memB i [9, 10, 11, 12, 13, 32] with | true => 1 | false => 0
theorem ascii_row : (Rows.laid_strings_asciiSpace : DataW Unit) = .agg ((List.range 256).map fun i => .lit (.int .u8 (isSp i))) := by kernel_rfl

/-- The one table that is read: strings.asciiSpace. -/
theorem ascii_cell {W : World} (h : laidMetH Tryz.prog laid4 W) (r : Nat) (hr : r < 256) : W.cell? ⟨1, r, none⟩ = some (.int .u8 (isSp r)) := by
  rw [MakeChecks.laidMetH_plain _ _ _ (by kernel_rfl)] at h
  obtain ⟨ps, ⟨g0, t0, cs0, f0, p0, q0, hg0, ht0, hv0, hd0, ⟨g1, t1, cs1, f1, p1, q1, hg1, ht1, hv1, hd1, ⟨g, t, cs, fuel, p, q, hg, ht, hv, hd, _, _⟩, _⟩, _⟩, _, _⟩ := h
  obtain rfl := Option.some.inj ((show Tryz.prog.globalNamed "strings.asciiSpace" = some 1 by kernel_rfl).symm.trans hg)
  obtain rfl := Option.some.inj ((show (Tryz.prog.globals[1]?).map (·.type) = some 252 by kernel_rfl).symm.trans ht)
  have hU : Tryz.prog.underlying 252 = some (.array 256 5) := by kernel_rfl
  rw [ascii_row] at hd
  obtain ⟨xs, m, _, ex, _, hl, hel⟩ := DataW.trod_array hU hd
  have c5 : Tryz.prog.cellsOf 5 = 1 := by kernel_rfl
  have u5 : Tryz.prog.underlying 5 = some (.int .u8) := by kernel_rfl
  have hE := hel r hr
  rw [c5, Nat.mul_one, List.getElem?_eq_getElem (by omega)] at hE
  obtain ⟨z, e1, e2, _⟩ := DataW.trod_int u5 hE
  have e3 : (xs.map (·.1)) = (List.range 256).map fun i => .lit (.int .u8 (isSp i)) := (DataW.agg.inj (Prod.mk.inj ex).1).symm
  have e4 : (xs.map (·.1))[r]? = ((List.range 256).map fun i => (DataW.lit (.int .u8 (isSp i)) : DataW Unit))[r]? := by rw [e3]
  rw [List.getElem?_map, List.getElem?_map, List.getElem?_eq_getElem (by omega : r < xs.length), List.getElem?_range hr, e2] at e4
  have hz : z = isSp r := by
    simpa only [Option.map_some, Option.some.injEq, DataW.lit.injEq, Lit.int.injEq, true_and] using e4
  rw [World.var?_cell hg hv r, ← hz]
  have : cs.toList[r]? = some (.int .u8 z) := by
    have h0 : ((cs.toList.drop r).take 1)[0]? = some (.int .u8 z) := by rw [e1]; rfl
    simpa using h0
  simpa using this

/-- Where the run begins: no object; the table's cells are protected. -/
def gh0 : Gh := ⟨0, fun _ => 0, fun _ => 0, fun _ => False, fun _ => 0, fun b i => b = 1 ∧ i < 256⟩

theorem ascii_get (i : Nat) (h : i < asciiCells.length) : asciiCells[i] = .int .u8 (isSp i) := by
  simp only [asciiCells, List.getElem_map, List.getElem_range]; rfl

theorem rel0 {W : World} (h : ∀ r, r < 256 → W.cell? ⟨1, r, none⟩ = some (.int .u8 (isSp r))) : Rel TT.glob gh0 X0.st W where
  n := rfl
  base := Nat.le_refl _
  obj o ho := absurd ho (Nat.not_lt_zero _)
  inj o _ ho := absurd ho (Nat.not_lt_zero _)
  lt o ho := absurd ho (Nat.not_lt_zero _)
  prot b i hp := by
    obtain ⟨rfl, hi⟩ := hp
    rw [h i hi]; rfl
  glob g cells hg := by
    have hg' : glob0 g = some cells := hg
    unfold glob0 at hg'
    split at hg'
    · rename_i hb
      obtain rfl := Nat.eq_of_beq_eq_true hb
      cases hg'
      have hlen : asciiCells.length = 256 := by simp [asciiCells]
      refine .ip _ _ _ (fun i => .int .u8 (isSp i)) (fun i hi => ?_) (fun i hi => ?_) fun i hi => ?_
      · rw [Nat.zero_add]
        exact ⟨⟨rfl, by omega⟩, h i (by omega)⟩
      · rw [ascii_get]; rfl
      · rw [ascii_get]; exact .int _ _
    · cases hg'
  ty o _ ho := absurd ho (Nat.not_lt_zero _)

theorem calls_of {P : Program} {T : Tab} {f : FuncId} {c : Code} {N : Nat} {rs : List ResultVar} {args : List AV} {σ : St} {R : AV → St → Prop} (h : ACall P T f args σ R) (hf : FnOk P f c N rs) {γ : Gh} {w : World} {cargs : Array Value}
    (hr : Rel T.glob γ σ w) (hl : cargs.size = args.length) (hv : ∀ i (h : i < args.length), VRel γ w args[i] (cargs.getD i undef)) : Calls P f cargs w fun e w' => ∃ cv, e = .returned cv ∧ Good T γ σ.base w R cv w' := by
  have hc := h γ w cargs hr hl hv
  rw [enter_run hf] at hc
  exact hc

/-- The walk, in the world itself: true, and of what was there nothing has turned. -/
theorem walk (n : Nat) (hn : n < 65536) (W : World) (h : ∀ r, r < 256 → W.cell? ⟨1, r, none⟩ = some (.int .u8 (isSp r))) :
    Calls Tryz.prog 4 #[.int .u16 n] W fun e w' => e = .returned (.bool true) ∧ Below W.heap.size W w' := by
  have hv : ∀ i (hi : i < [AV.int .u16 (n : Int)].length), VRel gh0 W [AV.int .u16 (n : Int)][i] ((#[.int .u16 (n : Int)] : Array Value).getD i undef) := fun i hi => by
    have : i = 0 := by simp at hi; omega
    subst this
    exact .int _ _
  refine Calls.mono (calls_of (policy n hn X0.st (Nat.le_refl 0)) ok4.fn (rel0 h) rfl hv) fun e w' ⟨cv, he, v, σ', γ', hv, hs, _, _, hk⟩ => ?_
  subst he; subst hk
  cases hv
  exact ⟨rfl, ⟨hs.os, hs.tape, hs.output, hs.size, fun k hk => hs.frame k hk fun o _ ho => absurd ho (Nat.not_lt_zero _)⟩⟩

/-- Behind a call that takes no place of memory and leaves what was there as it was. -/
theorem post_of_low {H : Type} {enc : TypeId × Value → H} {P : Program} {f : Func} {s : ChangeSpec} {apart fresh handsOn again : Bool} {W W' : World} {args : Array Value} {v : Value} {ds gs : List (DataW H)}
    (hW : DataW.Whole enc P f.params.toList s.vars apart W args.toList ds gs [])
    (hres : ∀ (b : Nat) (sp : Nat → Bool) (hd : Bool), DataW.TrodAll enc P W' b sp hd f.resultTypes.toList (v.resultList f.resultTypes.size) (s.fn H (ds ++ gs)).results [])
    (hargs : ∀ sp : Nat → Bool, DataW.TrodAll enc P W' 0 sp true f.params.toList args.toList (s.fn H (ds ++ gs)).args [])
    (hvars : ∀ sp : Nat → Bool, DataW.TrodVars enc P W' sp s.vars (s.fn H (ds ++ gs)).vars [])
    (hk : W.keptBut W' (· ∈ ([] : List MemPlace)))
    (hok : ∀ (j : Nat) (t : TypeId) (r : Value), f.resultTypes[j]? = some t → (v.resultList f.resultTypes.size)[j]? = some r → Value.okWide P W' .any 0 t r) :
    s.post enc P f apart fresh handsOn again W args v W' :=
  ⟨ds, gs, [], [], [], [], hW, hres _ _ _, hargs _, hvars _, World.keptBut_mono (fun p hp => by cases hp) hk, fun _ =>
    ⟨hok, _, _, ([] ++ []) ++ [], ⟨[] ++ [], [], trodAll_append (hargs _) (hres _ _ _), hvars _, rfl, fun _ _ hp => by simp at hp, fun _ => List.nodup_nil⟩, fun p hp _ => by simp at hp⟩⟩

set_option maxRecDepth 100000 in
theorem lifted (os : Os) (started : os.Started) (H : Type) (enc : TypeId × Value → H) :
    ReturnsInHanded {} Tryz.checked os 4 .any (fun w args => (Rows.xlatePolicySpec.pre enc Tryz.prog Tryz.f4 Rows.xlatePolicyRow.domain false w args ∧ laidMetH Tryz.prog laid4 w) ∧ sizedMet enc Tryz.prog Tryz.f4 (OpenSpec.ofChange Rows.xlatePolicySpec) false w args)
      (Rows.xlatePolicySpec.post enc Tryz.prog Tryz.f4 false true false false) := by
  refine returnsInHanded_of_change_and (C := Tryz.checked) (X := fun w _ => laidMetH Tryz.prog laid4 w) (fun _ _ _ hh h => h.of_heap hh) own started (by kernel_rfl) Tryz.func4
    (ChangeSpec.witness_shaped (enc := enc) (C := Tryz.checked) (os := os) (X := fun w _ => laidMetH Tryz.prog laid4 w) false (World.laidAll Tryz.prog os laid4) #[.int .u16 0] 8 (World.laidAll_os _ _ _)
      (World.shaped_of_ZipB (by kernel_rfl) (by kernel_rfl)) (by kernel_rfl) (by kernel_rfl) (by kernel_rfl)
      (by rw [MakeChecks.laidMetH_plain _ _ _ (by kernel_rfl)]; exact laidMet_laidAll _ (by kernel_rfl) (by kernel_rfl))) ?_
  intro W base args ds gs before hval0 hW hc _ hL _
  have hval : ∀ (j : Nat) t v, Tryz.f4.params[j]? = some t → args[j]? = some v → Value.okWide Tryz.prog W .any base t v := hval0
  have hW' := hW
  obtain ⟨p, q, hA0, hV, rfl, _, _⟩ := hW
  have hA : DataW.TrodAll enc Tryz.prog W 0 (fun _ => true) true Tryz.f4.params.toList args.toList ds p := hA0
  rw [Tryz.params4] at hA hval
  obtain ⟨v0, d0, rfl, rfl, h0⟩ := trodAll_one hA
  obtain ⟨rfl, rfl⟩ := trodVars_none hV
  obtain ⟨x, rfl, rfl, rfl, wx⟩ := open_int Tryz.underlying22 (hval 0 22 v0 rfl rfl) h0
  have hx : 0 ≤ x ∧ x < 65536 := by
    have h1 : IntKind.min .u16 ≤ x ∧ x ≤ IntKind.max .u16 := by simpa [Lit.wf] using wx
    have e1 : IntKind.min .u16 = 0 := rfl
    have e2 : IntKind.max .u16 = 65535 := rfl
    omega
  obtain ⟨r, rfl⟩ : ∃ r : Nat, x = r := ⟨x.toNat, by omega⟩
  simp only [List.append_nil] at hW'
  refine (walk r (by omega) W fun i hi => ascii_cell hL i hi).mono fun e W' ⟨he, hw⟩ => ?_
  subst he
  exact ⟨_, rfl, post_of_low hW' (fun _ _ _ => trodAll_mk1 (shut_bool Tryz.underlying4 _)) (fun sp => trodAll_mk1 (shut_int Tryz.underlying22 wx)) (fun _ => rfl) (hw.frame _) (ok_one (by kernel_rfl) rfl (okWide_bool_mk Tryz.underlying4 _))⟩

end Go.Proofs.QQ
end
