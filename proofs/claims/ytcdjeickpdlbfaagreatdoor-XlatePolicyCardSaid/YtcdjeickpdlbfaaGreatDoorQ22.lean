/- A part of the proof that XlatePolicy returns true at every argument: the reader machine and this translation under it. Conditions: those that each theorem bears. -/
import Derived.Test.YtcdjeickpdlbfaaGreatDoorQ21
import Derived.Test.YtcdjeickpdlbfaaGreatDoorProg
import Derived.Shelf.SlIter.Nil
import Derived.Shelf.SortM.Plain
import Derived.Shelf.SortM.SortNone
import Derived.Ground.GgzProg
import Derived.Ground.SlgmProg
import Derived.Shelf.SlGeneric
import Derived.WalkKit
import Derived.Laws.IdiomRangeMap
import Derived.Deep.LoopGhost
import Derived.Shelf.Abstract
section
set_option maxRecDepth 100000
set_option linter.unusedVariables false
namespace Go.Proofs
open Go.RowKit Go.Maps Go.Sort Go.Shelf

def Tryz.keys179_ren : Go.Shelf.Ren := ⟨fun | 7 => 179 | 10 => 225 | n => n, fun | 23 => 258 | 26 => 9 | 3 => 140 | 28 => 265 | 0 => 0 | 27 => 264 | 33 => 62 | 4 => 4 | n => n, fun | n => n⟩
theorem Tryz.keys179 : Go.Proofs.SlLaysZ.n7 Tryz.prog Tryz.keys179_ren := {
  mixed := by kernel_rfl
  f7 := ⟨Tryz.f179.name, by decide, Tryz.func179.trans (congrArg some (by kernel_rfl))⟩
  f10 := ⟨Tryz.f225.name, by decide, Tryz.func225.trans (congrArg some (by kernel_rfl))⟩
  t0 := Tryz.underlying0
  a0 := Tryz.isAgg0
  z0 := Tryz.sizeOf0
  v0 := Tryz.zeroValue0
  t4 := Tryz.underlying4
  a4 := Tryz.isAgg4
  z4 := Tryz.sizeOf4
  v4 := Tryz.zeroValue4
  t23 := Tryz.underlying258
  a23 := Tryz.isAgg258
  z23 := Tryz.sizeOf258
  v23 := Tryz.zeroValue258
  t26 := Tryz.underlying9
  a26 := Tryz.isAgg9
  z26 := Tryz.sizeOf9
  v26 := Tryz.zeroValue9
  t27 := Tryz.underlying264
  a27 := Tryz.isAgg264
  z27 := Tryz.sizeOf264
  v27 := Tryz.zeroValue264
  t28 := Tryz.underlying265
  a28 := Tryz.isAgg265
  z28 := Tryz.sizeOf265
  v28 := Tryz.zeroValue265
  t33 := Tryz.underlying62
  a33 := Tryz.isAgg62
  z33 := Tryz.sizeOf62
  v33 := Tryz.zeroValue62 }
def Tryz.sorted178_ren : Go.Shelf.Ren := ⟨fun | 6 => 178 | 8 => 223 | 9 => 224 | 11 => 248 | 13 => 121 | 12 => 249 | 23 => 162 | 24 => 163 | 14 => 259 | 15 => 260 | 16 => 261 | 17 => 262 | 18 => 263 | 19 => 264 | 20 => 265 | 21 => 266 | 22 => 267 | 25 => 275 | 26 => 195 | 27 => 196 | 28 => 276 | 29 => 277 | 30 => 278 | 31 => 281 | n => n, fun | 26 => 9 | 28 => 265 | 24 => 104 | 0 => 0 | 3 => 3 | 37 => 51 | 48 => 244 | 50 => 246 | 4 => 4 | 40 => 237 | 39 => 236 | 45 => 241 | 5 => 5 | 9 => 9 | 51 => 273 | 55 => 277 | 57 => 321 | 58 => 209 | 33 => 62 | n => n, fun | n => n⟩
theorem Tryz.sorted178 : Go.Proofs.SlLaysZ.n6 Tryz.prog Tryz.sorted178_ren := {
  mixed := by kernel_rfl
  f6 := ⟨Tryz.f178.name, by decide, Tryz.func178.trans (congrArg some (by kernel_rfl))⟩
  f8 := ⟨Tryz.f223.name, by decide, Tryz.func223.trans (congrArg some (by kernel_rfl))⟩
  f11 := ⟨Tryz.f248.name, by decide, Tryz.func248.trans (congrArg some (by kernel_rfl))⟩
  t0 := Tryz.underlying0
  a0 := Tryz.isAgg0
  z0 := Tryz.sizeOf0
  v0 := Tryz.zeroValue0
  t24 := Tryz.underlying104
  a24 := Tryz.isAgg104
  z24 := Tryz.sizeOf104
  v24 := Tryz.zeroValue104
  t26 := Tryz.underlying9
  a26 := Tryz.isAgg9
  z26 := Tryz.sizeOf9
  v26 := Tryz.zeroValue9
  t28 := Tryz.underlying265
  a28 := Tryz.isAgg265
  z28 := Tryz.sizeOf265
  v28 := Tryz.zeroValue265
  i26 := by kernel_rfl }
def Tryz.sort224_ren : Go.Shelf.Ren := ⟨fun | 6 => 224 | 8 => 121 | 9 => 249 | 19 => 162 | 20 => 163 | 21 => 259 | 22 => 260 | 23 => 261 | 24 => 262 | 25 => 263 | 26 => 264 | 27 => 265 | 28 => 266 | 29 => 267 | 36 => 275 | 31 => 195 | 32 => 196 | 37 => 276 | 38 => 277 | 39 => 278 | 41 => 281 | n => n, fun | 27 => 104 | 29 => 9 | 3 => 3 | 32 => 51 | 26 => 104 | 0 => 0 | 44 => 244 | 46 => 246 | 4 => 4 | 36 => 237 | 35 => 236 | 41 => 241 | 5 => 5 | 9 => 9 | 53 => 273 | 57 => 277 | 63 => 321 | 64 => 209 | n => n, fun | n => n⟩
theorem Tryz.sort224 : Go.Proofs.SlLaysM.n6 Tryz.prog Tryz.sort224_ren := {
  mixed := by kernel_rfl
  f6 := ⟨Tryz.f224.name, by decide, Tryz.func224.trans (congrArg some (by kernel_rfl))⟩
  f8 := Tryz.func121.trans (congrArg some (by kernel_rfl))
  f9 := ⟨Tryz.f249.name, by decide, Tryz.func249.trans (congrArg some (by kernel_rfl))⟩
  f19 := Tryz.func162.trans (congrArg some (by kernel_rfl))
  f20 := Tryz.func163.trans (congrArg some (by kernel_rfl))
  f21 := ⟨Tryz.f259.name, by decide, Tryz.func259.trans (congrArg some (by kernel_rfl))⟩
  f22 := ⟨Tryz.f260.name, by decide, Tryz.func260.trans (congrArg some (by kernel_rfl))⟩
  f23 := ⟨Tryz.f261.name, by decide, Tryz.func261.trans (congrArg some (by kernel_rfl))⟩
  f24 := ⟨Tryz.f262.name, by decide, Tryz.func262.trans (congrArg some (by kernel_rfl))⟩
  f25 := ⟨Tryz.f263.name, by decide, Tryz.func263.trans (congrArg some (by kernel_rfl))⟩
  f26 := ⟨Tryz.f264.name, by decide, Tryz.func264.trans (congrArg some (by kernel_rfl))⟩
  f27 := ⟨Tryz.f265.name, by decide, Tryz.func265.trans (congrArg some (by kernel_rfl))⟩
  f28 := ⟨Tryz.f266.name, by decide, Tryz.func266.trans (congrArg some (by kernel_rfl))⟩
  f29 := ⟨Tryz.f267.name, by decide, Tryz.func267.trans (congrArg some (by kernel_rfl))⟩
  f31 := Tryz.func195.trans (congrArg some (by kernel_rfl))
  f32 := Tryz.func196.trans (congrArg some (by kernel_rfl))
  f36 := ⟨Tryz.f275.name, by decide, Tryz.func275.trans (congrArg some (by kernel_rfl))⟩
  f37 := ⟨Tryz.f276.name, by decide, Tryz.func276.trans (congrArg some (by kernel_rfl))⟩
  f38 := ⟨Tryz.f277.name, by decide, Tryz.func277.trans (congrArg some (by kernel_rfl))⟩
  f39 := ⟨Tryz.f278.name, by decide, Tryz.func278.trans (congrArg some (by kernel_rfl))⟩
  f41 := ⟨Tryz.f281.name, by decide, Tryz.func281.trans (congrArg some (by kernel_rfl))⟩
  t0 := Tryz.underlying0
  a0 := Tryz.isAgg0
  z0 := Tryz.sizeOf0
  v0 := Tryz.zeroValue0
  t3 := Tryz.underlying3
  a3 := Tryz.isAgg3
  z3 := Tryz.sizeOf3
  v3 := Tryz.zeroValue3
  t4 := Tryz.underlying4
  a4 := Tryz.isAgg4
  z4 := Tryz.sizeOf4
  v4 := Tryz.zeroValue4
  t5 := Tryz.underlying5
  a5 := Tryz.isAgg5
  z5 := Tryz.sizeOf5
  v5 := Tryz.zeroValue5
  t9 := Tryz.underlying9
  a9 := Tryz.isAgg9
  z9 := Tryz.sizeOf9
  v9 := Tryz.zeroValue9
  t26 := Tryz.underlying104
  a26 := Tryz.isAgg104
  z26 := Tryz.sizeOf104
  v26 := Tryz.zeroValue104
  t27 := Tryz.underlying104
  a27 := Tryz.isAgg104
  z27 := Tryz.sizeOf104
  v27 := Tryz.zeroValue104
  t29 := Tryz.underlying9
  a29 := Tryz.isAgg9
  z29 := Tryz.sizeOf9
  v29 := Tryz.zeroValue9
  t32 := Tryz.underlying51
  a32 := Tryz.isAgg51
  z32 := Tryz.sizeOf51
  v32 := Tryz.zeroValue51
  t35 := Tryz.underlying236
  a35 := Tryz.isAgg236
  z35 := Tryz.sizeOf236
  v35 := Tryz.zeroValue236
  t36 := Tryz.underlying237
  a36 := Tryz.isAgg237
  z36 := Tryz.sizeOf237
  v36 := Tryz.zeroValue237
  t41 := Tryz.underlying241
  a41 := Tryz.isAgg241
  z41 := Tryz.sizeOf241
  v41 := Tryz.zeroValue241
  t44 := Tryz.underlying244
  a44 := Tryz.isAgg244
  z44 := Tryz.sizeOf244
  v44 := Tryz.zeroValue244
  t46 := Tryz.underlying246
  a46 := Tryz.isAgg246
  z46 := Tryz.sizeOf246
  v46 := Tryz.zeroValue246
  t53 := Tryz.underlying273
  a53 := Tryz.isAgg273
  z53 := Tryz.sizeOf273
  v53 := Tryz.zeroValue273
  t57 := Tryz.underlying277
  a57 := Tryz.isAgg277
  z57 := Tryz.sizeOf277
  v57 := Tryz.zeroValue277
  t63 := Tryz.underlying321
  a63 := Tryz.isAgg321
  z63 := Tryz.sizeOf321
  v63 := Tryz.zeroValue321
  t64 := Tryz.underlying209
  a64 := Tryz.isAgg209
  z64 := Tryz.sizeOf209
  v64 := Tryz.zeroValue209 }

theorem Tryz.sorts178 (m : Nat) : AnyZ.SortsIn Tryz.prog Tryz.sorted178_ren Fence.wide m :=
  ⟨fun blk off cap ss W hH hblk hsz => callsIn_wide.2 (AnyM.slices_Sort_string Tryz.sort224 blk off cap ss W hH hblk hsz),
   fun p cap W => callsIn_wide.2 (AnyM.slices_Sort_string_none Tryz.sort224 p cap W)⟩

set_option maxHeartbeats 1000000 in
/-- slices.Sorted at maps.Keys' iterator over any block that holds the map. -/
theorem Tryz.sorted_keys {H : Type} (k b nn : Nat) (D0 : DataW H) (R : Value → Option (DataW H × List MemPlace)) (w : World) (hk : k < w.heap.size) (hc : w.cell? ⟨k, 0, none⟩ = some (.map (some b))) (hown : w.ownsMap Tryz.prog 9 R b nn D0)
    (hmax : Maps.size D0 ≤ maxLen) (hbytes : Maps.size D0 * 16 ≤ 140737488355328) :
    CallsIn Fence.wide 5 Tryz.prog 178 #[.func (.func 225) #[] #[.pointer (some ⟨k, 0, none⟩)]] w fun e w' => ∃ (v : Value) (ss : List (List UInt8)), e = .returned v ∧ ss.Perm (strKeys D0) ∧
      w'.ownsRow w.heap.size 9 1 v ss.length ((ss.mergeSort (fun x y => decide (x ≤ y))).map encStr) ∧ (v = .slice none 0 0 ↔ ss = []) ∧ Below w.heap.size w w' := by
  have hseq : SeqGives Fence.wide 2 Tryz.prog 225 #[.pointer (some ⟨k, 0, none⟩)] encStr (fun ss => ss.Perm (strKeys D0)) (Maps.size D0) w :=
    AnyZ.keys_gives (ρ := Tryz.keys179_ren) { Tryz.keys179 with } Fence.wide _ trivial rfl (by omega) k b nn D0 _ hk hc hown
  exact AnyZ.sorted_in Tryz.sorted178 Fence.wide 5 trivial trivial trivial trivial rfl (by omega) (Tryz.sorts178 _) (enters_of Tryz.func224 (by kernel_rfl) rfl) 225 #[.pointer (some ⟨k, 0, none⟩)] trivial (enters_of Tryz.func225 (by kernel_rfl) rfl) _ _ hmax hbytes _ hseq

end Go.Proofs

namespace Go.Proofs.QQ
open Go

section
variable {G : Glob} {γ : Gh} {σ : St} {w : World}
theorem push_evo_at (h : Rel G γ σ w) {w' : World} (f : Fresh w w') (bk room : Nat) (fx : Prop) : Evo γ w (γ.push bk room fx) w' where
  n := Nat.le_succ _
  gen o ho := by simp [Gh.push, Nat.ne_of_lt ho]
  same o ho _ := by simp [Gh.push, Nat.ne_of_lt ho]
  fix o ho hf := by simp [Gh.push, Nat.ne_of_lt ho, hf]
  prot b i hp := ⟨hp, f.cell (h.protLt hp)⟩

theorem push_rel_at {bk : Nat} (hge : w.heap.size ≤ bk) (h : Rel G γ σ w) {w' : World} (f : Fresh w w') (room : Nat) (fx : Prop) (x : Obj) (t : Option TypeId) (ht : ∀ e, t = some e → ∃ (c : Array Value) (fr : Nat × Nat), w'.heap[bk]? = some (.cells c e fr) ∧ FrOk c fr) (base : Nat) (hlt : bk < w'.heap.size)
    (hx : ObjRel (γ.push bk room fx) w' γ.n x) (hb : base ≤ γ.n) :
    Step γ base w (γ.push bk room fx) w' ∧ Rel G (γ.push bk room fx) (σ.push x t) w' := by
  have e := push_evo_at h f bk room fx
  refine ⟨{ e with os := f.os, tape := f.tape, output := f.output, size := f.size, frame := fun b hb _ => f.block b hb, old := fun o h1 h2 => by (simp [Gh.push, Nat.ne_of_lt h2]), oldp := fun _ _ _ _ h => h, newp := fun _ _ h => .inl h, new := fun o h1 h2 => ?_ }, ?_⟩
  · by_cases ho : o = γ.n
    · exact .inr (by simp [Gh.push, ho]; exact hge)
    · have : o < γ.n := by simp [Gh.push] at h2; omega
      exact .inl ⟨this, by simp [Gh.push, ho]⟩
  · exact {
      n := by simp [St.push, Gh.push, h.n]
      base := by have := h.base; simp [St.push]; omega
      obj := fun o ho => by
        by_cases hn : o = γ.n
        · subst hn
          simp only [St.push, h.n, if_true]
          exact hx
        · have ho' : o < γ.n := by simp [Gh.push] at ho; omega
          have : (σ.push x t).at_ o = σ.at_ o := by simp [St.push, h.n, hn]
          rw [this]
          exact (h.obj o ho').fresh (h.lt o ho') f e (by simp [Gh.push, hn]) (by simp [Gh.push, hn]) (by simp [Gh.push, hn]) (by simp [Gh.push, hn]) fun _ h => h
      inj := fun o o' h1 h2 hb => by
        by_cases hn : o = γ.n <;> by_cases hn' : o' = γ.n
        · omega
        · have ho' : o' < γ.n := by simp [Gh.push] at h2; omega
          have := h.lt o' ho'
          simp [Gh.push, hn, hn'] at hb; omega
        · have ho : o < γ.n := by simp [Gh.push] at h1; omega
          have := h.lt o ho
          simp [Gh.push, hn, hn'] at hb; omega
        · simp [Gh.push, hn, hn'] at hb
          exact h.inj o o' (by simp [Gh.push] at h1; omega) (by simp [Gh.push] at h2; omega) hb
      lt := fun o ho => by
        by_cases hn : o = γ.n
        · simp [Gh.push, hn]; omega
        · have ho' : o < γ.n := by simp [Gh.push] at ho; omega
          have := h.lt o ho'
          have := f.size
          simp [Gh.push, hn]; omega
      prot := fun b i hp => by rw [f.cell (h.protLt hp)]; exact h.prot b i hp
      glob := fun g cells hg => (h.glob g cells hg).mono e
      ty := fun o u ho hu => by
        by_cases hn : o = γ.n
        · have hu' : t = some u := by simpa [St.push, h.n, hn] using hu
          obtain ⟨c, fr, hc, hf⟩ := ht u hu'
          exact ⟨c, fr, by simpa [Gh.push, hn] using hc, hf⟩
        · have ho' : o < γ.n := by simp [Gh.push] at ho; omega
          have hu' : σ.ty o = some u := by simpa [St.push, h.n, hn] using hu
          obtain ⟨c, fr, hc, hf⟩ := h.ty o u ho' hu'
          exact ⟨c, fr, by simp only [Gh.push, if_neg hn]; exact (f.block _ (h.lt o ho')).trans hc, hf⟩ }

/-- A new object: a row. -/
theorem new_row_at {bk : Nat} (hge : w.heap.size ≤ bk) {w' : World} (h : Rel G γ σ w) (t : Option TypeId) (base : Nat) (hb : base ≤ γ.n) (f : Fresh w w') (cs : Array Value) (el : TypeId) (fr : Nat × Nat) (hh : w'.heap[bk]? = some (.cells cs el fr))
    (ht : ∀ u, t = some u → u = el ∧ FrOk cs fr) (hfr : ∀ i, i < cs.size → w'.frozen? ⟨bk, i, none⟩ = false) (cells : List AV) (hl : cells.length ≤ cs.size) (hr : ∀ i (h : i < cells.length), VRel γ w cells[i] (cs.getD i undef)) :
    Step γ base w (γ.push bk cs.size False) w' ∧ Rel G (γ.push bk cs.size False) (σ.push (.row cells 0 0) t) w' := by
  have e := push_evo_at h f bk cs.size False
  refine push_rel_at hge h f cs.size False (.row cells 0 0) t (fun u hu => ⟨cs, fr, by rw [(ht u hu).1]; exact hh, (ht u hu).2⟩) base (Array.getElem?_eq_some_iff.1 hh).1 ?_ hb
  refine ⟨⟨by simp [Gh.push], by simp [Gh.push]⟩, cs, el, fr, ?_, by simp [Gh.push], hl, fun i hi => (hr i hi).mono e, fun i _ hi => ?_, fun i hi => ?_⟩
  · simp only [Gh.push, if_true]; exact hh
  · simp only [Gh.push, if_true]; exact hfr i hi
  · have : γ.prot bk i := by simpa [Gh.push] using hi
    have := h.protLt this
    omega

end

def leStr : List UInt8 → List UInt8 → Bool
  | [], _ => true
  | _ :: _, [] => false
  | a :: l, b :: m => match Nat.blt a.toNat b.toNat with
    | true => true
    | false => match Nat.beq a.toNat b.toNat with
      | true => leStr l m
      | false => false

theorem leStr_eq : ∀ (x y : List UInt8), leStr x y = decide (x ≤ y)
  | [], y => by simp [leStr]
  | a :: l, [] => by simp [leStr]
  | a :: l, b :: m => by
    have ih := leStr_eq l m
    unfold leStr
    split
    · rename_i h
      have h' : a < b := by rw [UInt8.lt_iff_toNat_lt]; simpa [Nat.blt_eq] using h
      simp [List.cons_le_cons_iff, h']
    · rename_i h
      have h' : ¬ a < b := by rw [UInt8.lt_iff_toNat_lt]; intro hc; rw [show Nat.blt a.toNat b.toNat = true by simpa [Nat.blt_eq] using hc] at h; cases h
      split
      · rename_i he
        have he' : a = b := UInt8.toNat_inj.1 (Nat.eq_of_beq_eq_true he)
        subst he'
        simp [List.cons_le_cons_iff, h', ih]
      · rename_i he
        have he' : a ≠ b := fun hc => by subst hc; simp at he
        simp [List.cons_le_cons_iff, h', he']

def insStr (x : List UInt8) : List (List UInt8) → List (List UInt8)
  | [] => [x]
  | y :: l => match leStr x y with
    | true => x :: y :: l
    | false => y :: insStr x l
def isort : List (List UInt8) → List (List UInt8)
  | [] => []
  | x :: l => insStr x (isort l)

theorem ins_perm (x : List UInt8) : ∀ l, (insStr x l).Perm (x :: l)
  | [] => .refl _
  | y :: l => by
    unfold insStr
    split
    · exact .refl _
    · exact ((ins_perm x l).cons y).trans (.swap x y l)
theorem isort_perm : ∀ l, (isort l).Perm l
  | [] => .refl _
  | x :: l => (ins_perm x _).trans ((isort_perm l).cons x)

theorem le_tot (x y : List UInt8) (h : leStr x y = false) : leStr y x = true := by
  rw [leStr_eq] at h ⊢
  have : ¬ x ≤ y := by simpa using h
  rcases List.le_total x y with h1 | h1
  · exact absurd h1 this
  · simpa using h1
theorem le_trans' {x y z : List UInt8} (h1 : leStr x y = true) (h2 : leStr y z = true) : leStr x z = true := by
  rw [leStr_eq] at h1 h2 ⊢
  simp only [decide_eq_true_eq] at h1 h2 ⊢
  exact List.le_trans h1 h2

theorem ins_sorted (x : List UInt8) : ∀ l, l.Pairwise (fun a b => leStr a b = true) → (insStr x l).Pairwise (fun a b => leStr a b = true)
  | [], _ => by simp [insStr]
  | y :: l, h => by
    have hy := List.pairwise_cons.1 h
    unfold insStr
    split
    · rename_i hxy
      refine List.pairwise_cons.2 ⟨fun z hz => ?_, h⟩
      rcases List.mem_cons.1 hz with rfl | hz
      · exact hxy
      · exact le_trans' hxy (hy.1 z hz)
    · rename_i hxy
      refine List.pairwise_cons.2 ⟨fun z hz => ?_, ins_sorted x l hy.2⟩
      rcases List.mem_cons.1 ((ins_perm x l).mem_iff.1 hz) with rfl | hz
      · exact le_tot _ _ hxy
      · exact hy.1 z hz
theorem isort_sorted : ∀ l, (isort l).Pairwise (fun a b => leStr a b = true)
  | [] => .nil
  | x :: l => ins_sorted x _ (isort_sorted l)

theorem sorted_unique : ∀ {l m : List (List UInt8)}, l.Perm m → l.Pairwise (fun a b => leStr a b = true) → m.Pairwise (fun a b => leStr a b = true) → l = m
  | [], m, hp, _, _ => by rw [List.nil_perm.1 hp]
  | a :: l, [], hp, _, _ => absurd hp.symm (by intro h; exact absurd (List.nil_perm.1 h) (by simp))
  | a :: l, b :: m, hp, h1, h2 => by
    have e : a = b := by
      have ha : a ∈ b :: m := hp.mem_iff.1 (List.mem_cons_self ..)
      have hb : b ∈ a :: l := hp.mem_iff.2 (List.mem_cons_self ..)
      rcases List.mem_cons.1 ha with h | ha
      · exact h
      · rcases List.mem_cons.1 hb with h | hb
        · exact h.symm
        · have h3 := (List.pairwise_cons.1 h1).1 b hb
          have h4 := (List.pairwise_cons.1 h2).1 a ha
          rw [leStr_eq] at h3 h4
          exact List.le_antisymm (by simpa using h3) (by simpa using h4)
    subst e
    rw [sorted_unique (List.perm_cons a |>.1 hp) (List.pairwise_cons.1 h1).2 (List.pairwise_cons.1 h2).2]

theorem isort_merge {l m : List (List UInt8)} (h : m.Perm l) : m.mergeSort (fun x y => decide (x ≤ y)) = isort l := by
  have e : (fun x y : List UInt8 => decide (x ≤ y)) = leStr := by funext x y; exact (leStr_eq x y).symm
  rw [e]
  refine sorted_unique ((List.mergeSort_perm m leStr).trans (h.trans (isort_perm l).symm)) ?_ (isort_sorted l)
  exact List.pairwise_mergeSort (le := leStr) (fun a b c h1 h2 => le_trans' h1 h2) (fun a b => by
    cases h : leStr a b with
    | true => rfl
    | false => simp [le_tot a b h]) m

/-- The keys of a map of texts. -/
def keysA : List (AV × AV) → Option (List (List UInt8))
  | [] => some []
  | (.str s, _) :: es => match keysA es, Nat.ble s.length 1000000 with
    | some l, true => some (s :: l)
    | _, _ => none
  | _ => none

noncomputable def extSorted : Ext := fun args x K =>
  match args with
  | [.fn (.func 225) [] [.ptr o g 0]] => xRow False o g x fun cells _ => match cells with
    | .mp m :: _ => xMap False m x fun es => match keysA es, Nat.ble es.length 1000000 with
      | some ks, true => fList (isort ks) fun ks => match ks with
        | [] => K .nils x
        | k :: l => fList ((k :: l).map AV.str) fun cs => fNat cs.length fun n => x.pushK False (.row cs 0 0) (some 9) fun o x' => K (.ms o 0 0 n 1) x'
      | _, _ => False
    | _ => False
  | _ => False

theorem keysA_spec : ∀ {es : List (AV × AV)} {ks : List (List UInt8)}, keysA es = some ks → ks.length = es.length ∧ ∀ i (h : i < es.length) (h' : i < ks.length), es[i].1 = .str ks[i] ∧ ks[i].length ≤ 1000000
  | [], ks, h => by cases h; exact ⟨rfl, fun i h => absurd h (by simp)⟩
  | (k, v) :: es, ks, h => by
    unfold keysA at h
    split at h
    · rename_i he; cases he
    · rename_i s v' es' he
      injection he with e1 e2
      subst e2
      injection e1 with e1 e3
      subst e1
      split at h
      · rename_i l hl hb
        cases h
        obtain ⟨h1, h2⟩ := keysA_spec hl
        refine ⟨by simp [h1], fun i hi hi' => ?_⟩
        cases i with
        | zero => exact ⟨rfl, Nat.le_of_ble_eq_true hb⟩
        | succ i => exact h2 i (Nat.lt_of_succ_lt_succ hi) (Nat.lt_of_succ_lt_succ hi')
      · cases h
    · cases h

/-- Values are not looked at. -/
def blindR : Value → Option (DataW Unit × List MemPlace) := fun _ => some (.nil, [])

set_option maxHeartbeats 1000000 in
theorem sorted_ok : ExtOk Tryz.prog TT 178 extSorted := fun args x K hx => by
  unfold extSorted at hx
  split at hx
  case h_2 => exact hx.elim
  rename_i o g
  obtain ⟨cells, wm, hlt, hrow, hx⟩ := row_x hx
  split at hx
  case h_2 => exact hx.elim
  rename_i m cells'
  obtain ⟨es, hmlt, hmap, hx⟩ := map_x hx
  split at hx
  case h_2 => exact hx.elim
  rename_i ks hks hsize
  have hsz : es.length ≤ 1000000 := Nat.le_of_ble_eq_true hsize
  obtain ⟨hkl, hkk⟩ := keysA_spec hks
  rw [fList_eq] at hx
  intro γ w cargs hr hl hv
  obtain ⟨cv, hcs, hv1⟩ := args_one hl hv
  cases hv1
  rename_i c1 c2 h1 h2 r1 r2
  obtain rfl : c1 = #[] := Array.eq_empty_of_size_eq_zero h1
  obtain ⟨c, rfl⟩ : ∃ c, c2 = #[c] := by
    obtain ⟨l⟩ := c2
    match l, h2 with
    | [c], _ => exact ⟨c, rfl⟩
  have hc : VRel γ w (.ptr o g 0) c := by simpa using r2 0 (by simp)
  cases hc
  rename_i a ho hg ha
  obtain ⟨hge, f, hcell, hrel⟩ := hr.cells hlt hrow
  obtain rfl := ha hge.symm
  have hcell0 := hcell 0 (by simp)
  have hrel0 : VRel γ w (.mp m) (f 0) := hrel 0 (Nat.zero_lt_succ _)
  generalize hf0 : f 0 = f0 at hcell0 hrel0
  cases hrel0
  rename_i b hm hb hfix
  subst hb
  obtain ⟨_, _, ms, clock, hh, hml, hvv, hstamp⟩ := entries hr (hr.n ▸ hm) hmap
  have hms : ms.size = es.length := by simpa using hml
  have u9 : Tryz.prog.underlying 9 = some .string := by kernel_rfl
  have hkeys : ∀ (i : Nat) (hi : i < ms.toList.length), ms.toList[i].key = .string ⟨(ks.getD i []).toArray⟩ ∧ (ks.getD i []).length ≤ 1000000 := fun i hi => by
    have hi' : i < es.length := by omega
    have hi2 : i < ks.length := by omega
    have e : ks.getD i [] = ks[i] := by simp [List.getD_eq_getElem?_getD, hi2]
    rw [e]
    obtain ⟨k1, k2⟩ := hkk i hi' hi2
    have := (hvv i hi' hi).1
    rw [k1] at this
    generalize hkv : ms.toList[i].key = kv at this
    cases this
    exact ⟨rfl, k2⟩
  have hread : ∀ e ∈ ms.toList, ∃ y, WideElems.rd Tryz.prog 9 blindR e = some y := fun e he => by
    obtain ⟨i, hi, rfl⟩ := List.getElem_of_mem he
    obtain ⟨k1, k2⟩ := hkeys i hi
    refine ⟨(.string (ks.getD i []), .nil), ?_⟩
    have hko : keyOf Tryz.prog 9 ms.toList[i].key = some (.string (ks.getD i [])) := by
      rw [k1, WideMaps.keyOf_string_mk u9 (by show (ks.getD i []).toArray.size ≤ _; simp only [List.size_toArray]; unfold maxLen; omega)]
    exact WideElems.rd_mk (R := blindR) (val := ms.toList[i].val) (yv := (.nil, [])) (born := ms.toList[i].born) hko rfl
  have hfit : WideElems.Fit Tryz.prog 9 blindR ms clock := ⟨by unfold maxLen; omega, hstamp, hread⟩
  have hown : w.ownsMap Tryz.prog 9 blindR (γ.blk m) es.length (.map ((ms.toList.map (WideElems.rg Tryz.prog 9 blindR)).foldr DataW.insert [])) :=
    ⟨ms, clock, hh, hfit, by omega, rfl⟩
  have hD : Maps.size (DataW.map ((ms.toList.map (WideElems.rg Tryz.prog 9 blindR)).foldr DataW.insert []) : DataW Unit) = es.length := by
    simp only [Maps.size, Go.length_sorted]
    simp [hms]
  have hperm : (Go.strKeys (DataW.map ((ms.toList.map (WideElems.rg Tryz.prog 9 blindR)).foldr DataW.insert []) : DataW Unit)).Perm ks := by
    simp only [Go.strKeys]
    refine ((WideShapes.sorted_perm _).map _).trans (List.Perm.of_eq ?_)
    apply List.ext_getElem
    · simp; omega
    · intro i hi1 hi2
      have hi : i < ms.toList.length := by simpa using hi1
      obtain ⟨k1, k2⟩ := hkeys i hi
      have hko : keyOf Tryz.prog 9 ms.toList[i].key = some (.string (ks.getD i [])) := by
        rw [k1, WideMaps.keyOf_string_mk u9 (by show (ks.getD i []).toArray.size ≤ _; simp only [List.size_toArray]; unfold maxLen; omega)]
      have hrg : WideElems.rg Tryz.prog 9 blindR ms.toList[i] = (.string (ks.getD i []), .nil) := WideElems.rg_of (WideElems.rd_mk (R := blindR) (val := ms.toList[i].val) (yv := (.nil, [])) (born := ms.toList[i].born) hko rfl)
      simp only [List.getElem_map, hrg, Go.strOf]
      simp [List.getD_eq_getElem?_getD, hi2]
  have hcall := callsIn_wide.1 (Tryz.sorted_keys (γ.blk o) (γ.blk m) es.length _ blindR w (hr.lt o (hr.n ▸ hlt)) hcell0 hown (by rw [hD]; unfold maxLen; omega) (by rw [hD]; omega))
  rw [hcs, enter_run (P := Tryz.prog) (f := 178) (c := (Tryz.f178.body).getD .skip) (N := Tryz.f178.ntmps) (rs := Tryz.f178.results.toList) ok178.fn]
  refine Calls.mono hcall fun e w' ⟨v, ss, he, hss, hrow, hnil, hbelow⟩ => ⟨v, he, ?_⟩
  have hsorted : ss.mergeSort (fun x y => decide (x ≤ y)) = isort ks := isort_merge (hss.trans hperm)
  rw [hsorted] at hrow
  have fr : Fresh w w' := ⟨hbelow.os, hbelow.tape, hbelow.output, hbelow.size, fun b hb => hbelow.block b hb⟩
  have hsl : ss.length = (isort ks).length := ((hss.trans hperm).trans (isort_perm ks).symm).length_eq
  cases hik : isort ks with
  | nil =>
    rw [hik] at hx hsl
    simp only at hx
    obtain rfl := hnil.2 (List.eq_nil_of_length_eq_zero hsl)
    exact ⟨.nils, x.st, γ, .nils, Fresh.step hr fr _, hr.fresh fr, rfl, x, rfl, hx⟩
  | cons k l =>
    rw [hik] at hx hsl hrow
    simp only [fList_eq, fNat_eq] at hx
    obtain ⟨x', hk, hx'⟩ := X.pushK_st hx
    rcases hrow.2 with ⟨_, h0⟩ | ⟨gb, cap, cur, rfl, hbase, hgb, hcap, hcapm, hcur, htake⟩
    · rw [hsl] at h0; simp at h0
    have hlen : ss.length = ((k :: l).map AV.str).length := by simpa using hsl
    have hcs2 : ((k :: l).map AV.str).length ≤ cur.size := by rw [hcur, ← hlen]; omega
    have hval : ∀ i (hi : i < ((k :: l).map AV.str).length), VRel γ w ((k :: l).map AV.str)[i] (cur.getD i undef) := fun i hi => by
      have hi2 : i < (k :: l).length := by simpa using hi
      have hi3 : i < cur.size := by omega
      have hi4 : i < cur.toList.length := by simpa using hi3
      have e1 : cur.getD i undef = cur.toList[i] := by simp [Array.getD, hi3]
      have e2 : cur.toList[i]? = some (.string ⟨((k :: l)[i]).toArray⟩) := by
        have h5 := congrArg (fun l => l[i]?) htake
        simp only [List.getElem?_take, List.getElem?_map, List.getElem?_eq_getElem hi2, Option.map_some] at h5
        rw [if_pos (by omega)] at h5
        exact h5
      rw [List.getElem?_eq_getElem hi4] at e2
      rw [e1, Option.some.inj e2]
      simp only [List.getElem_map]
      exact .str _
    obtain ⟨hst, hrel2⟩ := new_row_at hbase hr (some 9) x.st.base (hr.n ▸ hr.base) fr cur 9 (0, 0) hgb (fun u hu => ⟨(Option.some.inj hu).symm, .inl rfl⟩)
      (fun i _ => by simp [World.frozen?, hgb]) ((k :: l).map AV.str) hcs2 hval
    refine ⟨.ms x.st.n 0 0 ((k :: l).map AV.str).length 1, x'.st, _, ?_, hst, hx' ▸ hrel2, by rw [hx']; rfl, x', rfl, hk⟩
    rw [hlen]
    refine .ms _ _ _ _ _ _ _ (by rw [hr.n]; exact Nat.lt_succ_self _) (Nat.zero_le _) (by rw [← hlen]; exact hcap) fun _ => ⟨?_, ?_⟩
    · rw [hr.n]; simp [Gh.push]
    · rw [hr.n]; simp [Gh.push]; omega

end Go.Proofs.QQ
end
section
set_option maxRecDepth 100000
set_option linter.unusedVariables false
namespace Go.Proofs.QQ
open Go Go.RowKit

set_option maxHeartbeats 400000 in
theorem closure215 (k : Value) (s : ByteArray) (n h how : Int) (ab ao : Nat) (W : World) (ha : ab < W.heap.size) (hx : W.cell? ⟨ab, ao, none⟩ = some (.int .i64 how)) :
    Calls Tryz.prog 215 #[k, .agg #[.string s, .int .u16 n, .int .i64 h], .pointer (some ⟨ab, ao, none⟩)] W fun e w' => e = .returned (.bool (h == how)) ∧ w' = W.alloc (.cells #[.string s, .int .u16 n, .int .i64 h] 140) := by
  go_enter Tryz.func215, Tryz.ntmps215
  go_wp2
  go_ret
  exact ⟨rfl, rfl⟩

/-- The world with an iterator's block laid anew. -/
def iterW (w : World) (r : Nat) (o : Go.Obj) : World := { w with heap := w.heap.setIfInBounds r o }

theorem run_next_at {P : Program} (w : World) (ty : TypeId) (r bm since c0 : Nat) (seen : Array Nat) (es : Array MapEntry) (clock : Nat) (hr : w.heap[r]? = some (.mapIter (some bm) since seen c0)) (hb : w.heap[bm]? = some (.map es clock))
    (hold : ∀ x ∈ es.toList, x.born < since) (hsc : since ≤ c0) :
    ((leftOf es seen).size = 0 ∧ (Instr.next (.pointer (some ⟨r, 0, none⟩)) false ty).run P w = .ok (.tuple #[.bool false]) w) ∨
    ∃ e ∈ (leftOf es seen).toList, ∃ w1 : World, (w1.Alike w ∧ w1.tape = w.tape) ∧ (Instr.next (.pointer (some ⟨r, 0, none⟩)) false ty).run P w = .ok (.tuple #[.bool true, e.key, e.val]) (iterW w1 r (.mapIter (some bm) since (seen.push e.born) clock)) := by
  simp only [Instr.next, getObj, Sem.run_bind, Sem.run, hr, hb, Result.andThen, next_test_false seen es since c0 hold hsc, Bool.false_eq_true, if_false]
  unfold leftOf
  have hmem : ∀ x ∈ (Array.filter (fun e => !seen.contains e.born) es).toList, x.born < since := fun x hx => hold x (by simp at hx ⊢; exact hx.1)
  generalize Array.filter (fun e => !seen.contains e.born) es = L at hmem ⊢
  have e1 : L.filter (fun x => decide (x.born < since)) = L := Array.filter_eq_self.2 (fun x hx => by simpa using hmem x (by simpa using hx))
  have e2 : L.filter (fun x => decide (x.born ≥ since)) = #[] := by
    rw [Array.filter_eq_empty_iff]
    intro x hx
    have := hmem x (by simpa using hx)
    simp
    omega
  simp only [e1, e2, Array.append_empty]
  by_cases h0 : L.size = 0
  · left
    have : L = #[] := Array.eq_empty_of_size_eq_zero h0
    subst this
    refine ⟨rfl, ?_⟩
    simp [choose, Sem.run, Question.forced]
  · right
    have hne : L.isEmpty = false := by simp [Array.isEmpty, h0]
    simp only [hne, Bool.false_eq_true, if_false, Array.empty_append, Array.size_map]
    have hch : ∃ (j : Nat) (w1 : World), j < L.size ∧ (w1.Alike w ∧ w1.tape = w.tape) ∧ (choose (Question.mapNext L.size)).run P w = .ok j w1 := by
      by_cases hf : L.size ≤ 1
      · exact ⟨0, w, by omega, ⟨⟨rfl, rfl, rfl⟩, rfl⟩, by simp [choose, Sem.run, Question.forced, hf]⟩
      · exact ⟨_, w.drew, Nat.mod_lt _ (by omega), ⟨⟨rfl, rfl, rfl⟩, rfl⟩, by
          simp only [choose, Sem.run, Question.forced, decide_eq_true_eq, hf, if_false, Question.cut]
          rfl⟩
    obtain ⟨j, w1, hj, hal, hrun⟩ := hch
    refine ⟨L[j], by simp, w1, hal, ?_⟩
    have hr1 : w1.heap[r]? = some (.mapIter (some bm) since seen c0) := by rw [hal.1.1]; exact hr
    have hset : ∀ (o' : Go.Obj), (setObj r o').run P w1 = .ok () (iterW w1 r o') := fun o' => by
      simp only [setObj, Sem.run, hr1]
      rfl
    simp only [hrun, Array.getElem?_map, Array.getElem?_eq_getElem hj, Option.map_some, Sem.run_bind, hset, Result.andThen]
    rfl

theorem run_entry_at {P : Program} (w : World) (r bm since : Nat) (seen : Array Nat) (es : Array MapEntry) (clock : Nat) (e : MapEntry) (hr : w.heap[r]? = some (.mapIter (some bm) since (seen.push e.born) clock)) (hb : w.heap[bm]? = some (.map es clock))
    (he : e ∈ es.toList) (hn : (es.toList.map (·.born)).Nodup) : (Instr.entry (.pointer (some ⟨r, 0, none⟩))).run P w = .ok (.tuple #[e.key, e.val]) w := by
  have hf : es.find? (·.born == e.born) = some e := by rw [← Array.find?_toList]; exact find_born e es.toList hn he
  simp only [Instr.entry, getObj, Sem.run_bind, Sem.run, hr, hb, Result.andThen, Array.back?_push, bne_self_eq_false, Bool.false_eq_true, if_false, hf]
  rfl

/-- What a round finds: the map as it was, the iterator in its block, all old blocks as they were. -/
structure Rnd (w : World) (bm : Nat) (es : Array MapEntry) (clock : Nat) (wr : World) : Prop where
  fr : Fresh w wr
  big : w.heap.size < wr.heap.size
  it : ∃ seen c0, wr.heap[w.heap.size]? = some (.mapIter (some bm) clock seen c0) ∧ clock ≤ c0

def seenIn (wr : World) (r : Nat) : Array Nat := match wr.heap[r]? with | some (.mapIter _ _ s _) => s | _ => #[]

set_option maxHeartbeats 1000000 in
theorem delete_none (bm : Nat) (es : Array MapEntry) (clock : Nat) (how : Int) (ab ao : Nat) (w : World) (ha : ab < w.heap.size) (hx : w.cell? ⟨ab, ao, none⟩ = some (.int .i64 how)) (hb : w.heap[bm]? = some (.map es clock)) (hst : MapKept.Stamped es clock)
    (hv : ∀ x ∈ es.toList, ∃ (s : ByteArray) (n h : Int), x.val = .agg #[.string s, .int .u16 n, .int .i64 h] ∧ (h == how) = false) :
    Calls Tryz.prog 214 #[.map (some bm), .func (.func 215) #[] #[.pointer (some ⟨ab, ao, none⟩)]] w fun e w' => e = .returned (.tuple #[]) ∧ Fresh w w' := by
  have hrg := run_range_map (P := Tryz.prog) w 258 9 140 bm es clock Tryz.underlying258 hb
  have hbl : bm < w.heap.size := (Array.getElem?_eq_some_iff.1 hb).1
  go_enter Tryz.func214, Tryz.ntmps214
  go_wp2
  go_loopw [8] (fun _ wr => Rnd w bm es clock wr) (fun _ wr => (leftOf es (seenIn wr w.heap.size)).size)
  case atStart => exact ⟨Fresh.alloc _ _, by simp, #[], clock, heap_alloc_new _ _, Nat.le_refl _⟩
  case round =>
    obtain ⟨fr, big, seen, c0, hit, hc0⟩ := hrel
    have hb1 : wr.heap[bm]? = some (.map es clock) := (fr.block bm hbl).trans hb
    have law := run_next_at (P := Tryz.prog) wr 0 w.heap.size bm clock c0 seen es clock hit hb1 hst.1 hc0
    rcases law with ⟨h0, hrun⟩ | ⟨e, he, w2, hal2, hrun⟩
    · have hnx : ∀ ty, (Instr.next (.pointer (some ⟨w.heap.size, 0, none⟩)) false ty).run Tryz.prog wr = _ := fun _ => hrun
      go_wp2
      go_end0
      exact ⟨rfl, fr⟩
    · obtain ⟨s, n, h, hval, hne⟩ := hv e (mem_left he).1
      have hsz2 : w2.heap.size = wr.heap.size := by rw [hal2.1.1]
      have hitl : w.heap.size < w2.heap.size := by rw [hsz2]; exact big
      have hit3 : (iterW w2 w.heap.size (.mapIter (some bm) clock (seen.push e.born) clock)).heap[w.heap.size]? = some (.mapIter (some bm) clock (seen.push e.born) clock) := by
        simp only [iterW]; rw [Array.getElem?_setIfInBounds_self_of_lt hitl]
      have hold3 : ∀ b, b ≠ w.heap.size → (iterW w2 w.heap.size (.mapIter (some bm) clock (seen.push e.born) clock)).heap[b]? = wr.heap[b]? := fun b hbn => by
        simp only [iterW]; rw [Array.getElem?_setIfInBounds_ne (fun he => hbn he.symm), hal2.1.1]
      have hsz3 : (iterW w2 w.heap.size (.mapIter (some bm) clock (seen.push e.born) clock)).heap.size = wr.heap.size := by simp [iterW, hsz2]
      have fr3 : Fresh w (iterW w2 w.heap.size (.mapIter (some bm) clock (seen.push e.born) clock)) :=
        ⟨hal2.1.2.1.trans fr.os, hal2.2.trans fr.tape, hal2.1.2.2.trans fr.output, by rw [hsz3]; exact fr.size, fun b hb => (hold3 b (by omega)).trans (fr.block b hb)⟩
      generalize iterW w2 w.heap.size (.mapIter (some bm) clock (seen.push e.born) clock) = W3 at hrun hit3 hold3 hsz3 fr3
      have hb3 : W3.heap[bm]? = some (.map es clock) := (fr3.block bm hbl).trans hb
      rw [hval] at hrun
      have hnx : ∀ ty, (Instr.next (.pointer (some ⟨w.heap.size, 0, none⟩)) false ty).run Tryz.prog wr = _ := fun _ => hrun
      have hen := run_entry_at (P := Tryz.prog) W3 w.heap.size bm clock seen es clock e hit3 hb3 (mem_left he).1 hst.2.1
      rw [hval] at hen
      have hx3 : W3.cell? ⟨ab, ao, none⟩ = some (.int .i64 how) := (fr3.cell ha).trans hx
      have ha3 : ab < W3.heap.size := by rw [hsz3]; omega
      have big3 : w.heap.size < W3.heap.size := by rw [hsz3]; exact big
      clear hrun hv hx hold3 hsz3 hsz2 hitl
      go_wp2_with fail
      refine Calls.mono (closure215 e.key s n h how ab ao (W3.alloc (.cells #[.string s, .int .u16 n, .int .i64 h] 140)) (by simp; omega) (((Fresh.alloc W3 _).cell ha3).trans hx3)) ?_
      rintro e' w' ⟨rfl, rfl⟩
      rw [hne]
      have f4 : Fresh w ((W3.alloc (.cells #[.string s, .int .u16 n, .int .i64 h] 140)).alloc (.cells #[.string s, .int .u16 n, .int .i64 h] 140)) := (fr3.trans (Fresh.alloc _ _)).trans (Fresh.alloc _ _)
      have hit4 : ((W3.alloc (.cells #[.string s, .int .u16 n, .int .i64 h] 140)).alloc (.cells #[.string s, .int .u16 n, .int .i64 h] 140)).heap[w.heap.size]? = some (.mapIter (some bm) clock (seen.push e.born) clock) := by
        rw [(Fresh.alloc _ _).block _ (by simp; omega), (Fresh.alloc _ _).block _ big3]; exact hit3
      have big4 : w.heap.size < ((W3.alloc (.cells #[.string s, .int .u16 n, .int .i64 h] 140)).alloc (.cells #[.string s, .int .u16 n, .int .i64 h] 140)).heap.size := by simp; omega
      generalize (W3.alloc (.cells #[.string s, .int .u16 n, .int .i64 h] 140)).alloc (.cells #[.string s, .int .u16 n, .int .i64 h] 140) = W4 at f4 hit4 big4 ⊢
      have hmeas : (leftOf es (seenIn W4 w.heap.size)).size < (leftOf es (seenIn wr w.heap.size)).size := by
        have e1 : seenIn W4 w.heap.size = seen.push e.born := by unfold seenIn; rw [hit4]
        have e2 : seenIn wr w.heap.size = seen := by unfold seenIn; rw [hit]
        rw [e1, e2]
        exact left_shrinks es seen e he
      clear hnx hen hb3 hx3 ha3 big3 hval hal2 hit3 fr3
      go_wp2
      go_roundw
      case rel => exact ⟨f4, big4, _, _, hit4, Nat.le_refl _⟩
      case measure => exact hmeas

theorem eqInt_self (a : Int) : eqInt a a = true := by cases a <;> simp [eqInt]

noncomputable def extDelete : Ext := fun args x K =>
  match args with
  | [.mp m, .fn (.func 215) [] [.ptr o g off]] => xRow False o g x fun cells _ => match cells.drop off with
    | .int .i64 how :: _ => xMap False m x fun es => match es.all fun p => match p.2 with
        | .agg [.str _, .int .u16 _, .int .i64 h] => !(eqInt h how)
        | _ => false with
      | true => K (.tup []) x
      | false => False
    | _ => False
  | _ => False

theorem delete_ok : ExtOk Tryz.prog TT 214 extDelete := fun args x K hx => by
  unfold extDelete at hx
  split at hx
  case h_2 => exact hx.elim
  rename_i m o g off
  obtain ⟨cells, wm, hlt, hrow, hx⟩ := row_x hx
  split at hx
  case h_2 => exact hx.elim
  rename_i how rest hcells
  obtain ⟨es, hmlt, hmap, hx⟩ := map_x hx
  split at hx
  case h_2 => exact hx.elim
  rename_i hall
  intro γ w cargs hr hl hv
  obtain ⟨cv, cu, hcs, hv1, hv2⟩ := args_two hl hv
  cases hv1
  rename_i b hm hb hfix
  subst hb
  cases hv2
  rename_i c1 c2 h1 h2 r1 r2
  obtain rfl : c1 = #[] := Array.eq_empty_of_size_eq_zero h1
  obtain ⟨c, rfl⟩ : ∃ c, c2 = #[c] := by
    obtain ⟨l⟩ := c2
    match l, h2 with
    | [c], _ => exact ⟨c, rfl⟩
  have hc : VRel γ w (.ptr o g off) c := by simpa using r2 0 (by simp)
  cases hc
  rename_i a ho hg ha
  obtain ⟨hge, f, hcell, hrel⟩ := hr.cells hlt hrow
  obtain rfl := ha hge.symm
  have hlen : off < cells.length := by
    rcases Nat.lt_or_ge off cells.length with h | h
    · exact h
    · rw [List.drop_eq_nil_of_le h] at hcells; cases hcells
  have hat : cells[off] = .int .i64 how := by
    have := congrArg List.head? hcells
    simpa [List.head?_drop, List.getElem?_eq_getElem hlen] using this
  have hcell0 := hcell off hlen
  have hrel0 := hrel off hlen
  rw [hat] at hrel0
  generalize hf0 : f off = f0 at hcell0 hrel0
  cases hrel0
  obtain ⟨_, _, ms, clock, hh, hml, hvv, hstamp⟩ := entries hr (hr.n ▸ hm) hmap
  have hvals : ∀ e ∈ ms.toList, ∃ (s : ByteArray) (n h : Int), e.val = .agg #[.string s, .int .u16 n, .int .i64 h] ∧ (h == how) = false := fun e he => by
    obtain ⟨i, hi, rfl⟩ := List.getElem_of_mem he
    have hi' : i < es.length := by omega
    have hp := List.all_eq_true.1 hall _ (List.getElem_mem hi')
    have hv3 := (hvv i hi' hi).2
    split at hp
    case h_2 => cases hp
    rename_i s n h hs
    rw [hs] at hv3
    generalize ms.toList[i].val = mv at hv3 ⊢
    cases hv3
    rename_i cs hl3 hr3
    obtain ⟨l⟩ := cs
    match l, hl3 with
    | [x0, x1, x2], _ =>
      have a0 : VRel γ w (.str s) x0 := by simpa using hr3 0 (by simp)
      have a1 : VRel γ w (.int .u16 n) x1 := by simpa using hr3 1 (by simp)
      have a2 : VRel γ w (.int .i64 h) x2 := by simpa using hr3 2 (by simp)
      cases a0; cases a1; cases a2
      refine ⟨_, _, _, rfl, ?_⟩
      rw [beq_eq_false_iff_ne]
      intro hhe
      subst hhe
      rw [eqInt_self] at hp
      cases hp
  have hcall := delete_none (γ.blk m) ms clock how (γ.blk o) off w (hr.lt o (hr.n ▸ hlt)) hcell0 hh hstamp hvals
  rw [hcs, enter_run (P := Tryz.prog) (f := 214) (c := (Tryz.f214.body).getD .skip) (N := Tryz.f214.ntmps) (rs := Tryz.f214.results.toList) ok214.fn]
  exact Calls.mono hcall fun e w' ⟨he, hfr⟩ => ⟨_, he, .tup [], x.st, γ, .undef, Fresh.step hr hfr _, hr.fresh hfr, rfl, x, rfl, hx⟩

end Go.Proofs.QQ
end
section
set_option maxRecDepth 100000
namespace Go.Proofs.QQ
open Go

noncomputable def ext1 : NT Ext := .node 211 (.node 131 (.leaf 111 extCount) (.node 178 (.leaf 131 extSame) (.leaf 178 extSorted))) (.node 214 (.leaf 211 (extMake 5)) (.node 226 (.leaf 214 extDelete) (.leaf 226 extIndex)))
theorem ext1_ok : ext1.All (ExtOk Tryz.prog TT) := And.intro (And.intro e111 (And.intro e131 sorted_ok)) (And.intro e211 (And.intro delete_ok e226))

end Go.Proofs.QQ
end
