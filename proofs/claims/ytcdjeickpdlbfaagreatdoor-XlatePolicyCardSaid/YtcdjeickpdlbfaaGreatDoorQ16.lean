/- A part of the proof that XlatePolicy returns true at every argument: the reader machine and this translation under it. Conditions: those that each theorem bears. -/
import Derived.Test.YtcdjeickpdlbfaaGreatDoorQ02
import Derived.Test.YtcdjeickpdlbfaaGreatDoorProg
import Derived.KernelRfl
section
set_option maxRecDepth 100000
namespace Go.Proofs.QQ
open Go

/-- A list as the translation lays it: halved again and again. -/
def chunkT (f : Nat → Value) : Nat → Nat → Nat → List Value
  | 0, off, n => (List.range' off n).map f
  | k + 1, off, n => List.append (chunkT f k off (n / 2)) (chunkT f k (off + n / 2) (n - n / 2))

theorem chunkT_eq (f : Nat → Value) : ∀ k off n, chunkT f k off n = (List.range' off n).map f
  | 0, off, n => rfl
  | k + 1, off, n => by
    have h : n / 2 + (n - n / 2) = n := by omega
    show chunkT f k off (n / 2) ++ chunkT f k (off + n / 2) (n - n / 2) = _
    rw [chunkT_eq f k, chunkT_eq f k, ← List.map_append, List.range'_append_1, h]

def fB : Nat → Value := fun _ => .int .u8 0
def fH : Nat → Value := fun _ => .int .u64 0
def fI : Nat → Value := fun i => match Nat.blt i 65536 with | true => .int .u8 0 | false => .int .u64 0

theorem rep_of {f : Nat → Value} {v : Value} {a : AV} (ha : ofS v = a) : ∀ n off, (∀ i, off ≤ i → i < off + n → f i = v) → ((List.range' off n).map f).map ofS = List.replicate n a
  | 0, _, _ => rfl
  | n + 1, off, h => by
    rw [List.range'_succ, List.map_cons, List.map_cons, List.replicate_succ, h off (Nat.le_refl _) (by omega), ha, rep_of ha n (off + 1) fun i h1 h2 => h i (by omega) (by omega)]

def segB : List (Nat × AV) := [(65536, .int .u8 0)]
def segH : List (Nat × AV) := [(1024, .int .u64 0)]
def segI : List (Nat × AV) := [(65536, .int .u8 0), (1024, .int .u64 0)]

theorem segB_eq : (chunkT fB 10 0 65536).map ofS = baseCells segB := by
  rw [chunkT_eq, rep_of (f := fB) (a := .int .u8 0) (v := .int .u8 0) rfl 65536 0 fun _ _ _ => rfl]
  unfold baseCells segB
  rw [List.flatMap_cons, List.flatMap_nil, List.append_nil]
theorem segH_eq : (chunkT fH 4 0 1024).map ofS = baseCells segH := by
  rw [chunkT_eq, rep_of (f := fH) (a := .int .u64 0) (v := .int .u64 0) rfl 1024 0 fun _ _ _ => rfl]
  unfold baseCells segH
  rw [List.flatMap_cons, List.flatMap_nil, List.append_nil]
theorem segI_eq : (chunkT fI 11 0 66560).map ofS = baseCells segI := by
  rw [chunkT_eq, show (66560 : Nat) = 65536 + 1024 from rfl, ← List.range'_append_1, List.map_append, List.map_append,
    rep_of (a := .int .u8 0) (v := .int .u8 0) rfl 65536 0 fun i _ h => by unfold fI; rw [show Nat.blt i 65536 = true by rw [Nat.blt_eq]; omega],
    rep_of (a := .int .u64 0) (v := .int .u64 0) rfl 1024 (0 + 65536) fun i h _ => by unfold fI; rw [show Nat.blt i 65536 = false by rw [Bool.eq_false_iff, Ne, Nat.blt_eq]; omega]]
  unfold baseCells segI
  rw [List.flatMap_cons, List.flatMap_cons, List.flatMap_nil, List.append_nil]

theorem big_row {P : Program} {t : TypeId} {ti : TypeInfo} {r : TRow} (h1 : tdOf P t = r.td) (h2 : P.info? t = some ti) (h3 : ti.zero = some (.agg r.zero.toArray)) (h4 : ti.size = r.size) (h5 : ti.bytes = r.bytes) (h6 : r.zero.length = r.size) (h7 : r.td.agg = true) : rowOk P t r := by
  refine ⟨h1, fun _ => ?_⟩
  rw [h2]
  simp only [Option.bind_some, h3, Option.map_some, h4, h5, h7, isAggV]
  have e1 : (Value.agg r.zero.toArray).cells = r.zero.toArray := rfl
  rw [e1]
  simp [h6]

theorem chunk_len (f : Nat → Value) (k off n : Nat) : (chunkT f k off n).length = n := by rw [chunkT_eq]; simp

def r293 : TRow := ⟨.arr 65536 5, 65536, 65536, chunkT fB 10 0 65536⟩
theorem k293 : rowOk Tryz.prog 293 r293 := big_row (ti := Tryz.t293) (by kernel_rfl) (by kernel_rfl) (by kernel_rfl) (by kernel_rfl) (by kernel_rfl) (chunk_len _ _ _ _) rfl
def r294 : TRow := ⟨.arr 1024 246, 1024, 8192, chunkT fH 4 0 1024⟩
theorem k294 : rowOk Tryz.prog 294 r294 := big_row (ti := Tryz.t294) (by kernel_rfl) (by kernel_rfl) (by kernel_rfl) (by kernel_rfl) (by kernel_rfl) (chunk_len _ _ _ _) rfl
def r295 : TRow := ⟨.st [(0, 293), (65536, 294)], 66560, 73728, chunkT fI 11 0 66560⟩
theorem k295 : rowOk Tryz.prog 295 r295 := big_row (ti := Tryz.t295) (by kernel_rfl) (by kernel_rfl) (by kernel_rfl) (by kernel_rfl) (by kernel_rfl) (chunk_len _ _ _ _) rfl
def r296 : TRow := ⟨.st [(0, 293), (65536, 294)], 66560, 73728, chunkT fI 11 0 66560⟩
theorem k296 : rowOk Tryz.prog 296 r296 := big_row (ti := Tryz.t296) (by kernel_rfl) (by kernel_rfl) (by kernel_rfl) (by kernel_rfl) (by kernel_rfl) (chunk_len _ _ _ _) rfl

end Go.Proofs.QQ
end
section
set_option maxRecDepth 100000
namespace Go.Proofs.QQ
open Go
def r1 : TRow := ⟨.fn, 1, 8, [Value.nilFunc]⟩
theorem k1 : rowOk Tryz.prog 1 r1 := ⟨by kernel_rfl, fun _ => by kernel_rfl⟩
def r2 : TRow := ⟨.int IntKind.i64, 1, 8, [(Value.int IntKind.i64 0)]⟩
theorem k2 : rowOk Tryz.prog 2 r2 := ⟨by kernel_rfl, fun _ => by kernel_rfl⟩
def r3 : TRow := ⟨.int IntKind.i64, 1, 8, [(Value.int IntKind.i64 0)]⟩
theorem k3 : rowOk Tryz.prog 3 r3 := ⟨by kernel_rfl, fun _ => by kernel_rfl⟩
def r4 : TRow := ⟨.bool, 1, 1, [(Value.bool false)]⟩
theorem k4 : rowOk Tryz.prog 4 r4 := ⟨by kernel_rfl, fun _ => by kernel_rfl⟩
def r5 : TRow := ⟨.int IntKind.u8, 1, 1, [(Value.int IntKind.u8 0)]⟩
theorem k5 : rowOk Tryz.prog 5 r5 := ⟨by kernel_rfl, fun _ => by kernel_rfl⟩
def r6 : TRow := ⟨.int IntKind.u8, 1, 1, [(Value.int IntKind.u8 0)]⟩
theorem k6 : rowOk Tryz.prog 6 r6 := ⟨by kernel_rfl, fun _ => by kernel_rfl⟩
def r7 : TRow := ⟨.st [(0, 2), (1, 3), (2, 4), (3, 6)], 4, 24, [(Value.int IntKind.i64 0), (Value.int IntKind.i64 0), (Value.bool false), (Value.int IntKind.u8 0)]⟩
theorem k7 : rowOk Tryz.prog 7 r7 := ⟨by kernel_rfl, fun _ => by kernel_rfl⟩
def r8 : TRow := ⟨.st [(0, 2), (1, 3), (2, 4), (3, 6)], 4, 24, [(Value.int IntKind.i64 0), (Value.int IntKind.i64 0), (Value.bool false), (Value.int IntKind.u8 0)]⟩
theorem k8 : rowOk Tryz.prog 8 r8 := ⟨by kernel_rfl, fun _ => by kernel_rfl⟩
def r9 : TRow := ⟨.str, 1, 16, [(Value.string { data := #[] })]⟩
theorem k9 : rowOk Tryz.prog 9 r9 := ⟨by kernel_rfl, fun _ => by kernel_rfl⟩
def r10 : TRow := ⟨.str, 1, 16, [(Value.string { data := #[] })]⟩
theorem k10 : rowOk Tryz.prog 10 r10 := ⟨by kernel_rfl, fun _ => by kernel_rfl⟩
def r11 : TRow := ⟨.str, 1, 16, [(Value.string { data := #[] })]⟩
theorem k11 : rowOk Tryz.prog 11 r11 := ⟨by kernel_rfl, fun _ => by kernel_rfl⟩
def r12 : TRow := ⟨.int IntKind.u64, 1, 8, [(Value.int IntKind.u64 0)]⟩
theorem k12 : rowOk Tryz.prog 12 r12 := ⟨by kernel_rfl, fun _ => by kernel_rfl⟩
def r13 : TRow := ⟨.st [(0, 9), (1, 12)], 2, 24, [(Value.string { data := #[] }), (Value.int IntKind.u64 0)]⟩
theorem k13 : rowOk Tryz.prog 13 r13 := ⟨by kernel_rfl, fun _ => by kernel_rfl⟩
def r14 : TRow := ⟨.st [(0, 9), (1, 12)], 2, 24, [(Value.string { data := #[] }), (Value.int IntKind.u64 0)]⟩
theorem k14 : rowOk Tryz.prog 14 r14 := ⟨by kernel_rfl, fun _ => by kernel_rfl⟩
def r15 : TRow := ⟨.ptr 377, 1, 8, [(Value.pointer none)]⟩
theorem k15 : rowOk Tryz.prog 15 r15 := ⟨by kernel_rfl, fun _ => by kernel_rfl⟩
def r16 : TRow := ⟨.ptr 380, 1, 8, [(Value.pointer none)]⟩
theorem k16 : rowOk Tryz.prog 16 r16 := ⟨by kernel_rfl, fun _ => by kernel_rfl⟩
def r17 : TRow := ⟨.ptr 388, 1, 8, [(Value.pointer none)]⟩
theorem k17 : rowOk Tryz.prog 17 r17 := ⟨by kernel_rfl, fun _ => by kernel_rfl⟩
def r18 : TRow := ⟨.st [(0, 17)], 1, 8, [(Value.pointer none)]⟩
theorem k18 : rowOk Tryz.prog 18 r18 := ⟨by kernel_rfl, fun _ => by kernel_rfl⟩
def r19 : TRow := ⟨.st [(0, 17)], 1, 8, [(Value.pointer none)]⟩
theorem k19 : rowOk Tryz.prog 19 r19 := ⟨by kernel_rfl, fun _ => by kernel_rfl⟩
def r20 : TRow := ⟨.ifc, 1, 16, [Value.nilIface]⟩
theorem k20 : rowOk Tryz.prog 20 r20 := ⟨by kernel_rfl, fun _ => by kernel_rfl⟩
def r21 : TRow := ⟨.int IntKind.i32, 1, 4, [(Value.int IntKind.i32 0)]⟩
theorem k21 : rowOk Tryz.prog 21 r21 := ⟨by kernel_rfl, fun _ => by kernel_rfl⟩
def r22 : TRow := ⟨.int IntKind.u16, 1, 2, [(Value.int IntKind.u16 0)]⟩
theorem k22 : rowOk Tryz.prog 22 r22 := ⟨by kernel_rfl, fun _ => by kernel_rfl⟩
def r23 : TRow := ⟨.sl 31, 1, 24, [(Value.slice none 0 0)]⟩
theorem k23 : rowOk Tryz.prog 23 r23 := ⟨by kernel_rfl, fun _ => by kernel_rfl⟩
def r24 : TRow := ⟨.int IntKind.i64, 1, 8, [(Value.int IntKind.i64 0)]⟩
theorem k24 : rowOk Tryz.prog 24 r24 := ⟨by kernel_rfl, fun _ => by kernel_rfl⟩
def r26 : TRow := ⟨.fn, 1, 8, [Value.nilFunc]⟩
theorem k26 : rowOk Tryz.prog 26 r26 := ⟨by kernel_rfl, fun _ => by kernel_rfl⟩
def r27 : TRow := ⟨.fn, 1, 8, [Value.nilFunc]⟩
theorem k27 : rowOk Tryz.prog 27 r27 := ⟨by kernel_rfl, fun _ => by kernel_rfl⟩
def r28 : TRow := ⟨.fn, 1, 8, [Value.nilFunc]⟩
theorem k28 : rowOk Tryz.prog 28 r28 := ⟨by kernel_rfl, fun _ => by kernel_rfl⟩
def r29 : TRow := ⟨.sl 57, 1, 24, [(Value.slice none 0 0)]⟩
theorem k29 : rowOk Tryz.prog 29 r29 := ⟨by kernel_rfl, fun _ => by kernel_rfl⟩
def r30 : TRow := ⟨.st [(0, 9), (1, 4), (2, 9), (3, 29)], 4, 64, [(Value.string { data := #[] }), (Value.bool false), (Value.string { data := #[] }), (Value.slice none 0 0)]⟩
theorem k30 : rowOk Tryz.prog 30 r30 := ⟨by kernel_rfl, fun _ => by kernel_rfl⟩
def r31 : TRow := ⟨.st [(0, 9), (1, 4), (2, 9), (3, 29)], 4, 64, [(Value.string { data := #[] }), (Value.bool false), (Value.string { data := #[] }), (Value.slice none 0 0)]⟩
theorem k31 : rowOk Tryz.prog 31 r31 := ⟨by kernel_rfl, fun _ => by kernel_rfl⟩
def r32 : TRow := ⟨.fn, 1, 8, [Value.nilFunc]⟩
theorem k32 : rowOk Tryz.prog 32 r32 := ⟨by kernel_rfl, fun _ => by kernel_rfl⟩
def r33 : TRow := ⟨.sl 85, 1, 24, [(Value.slice none 0 0)]⟩
theorem k33 : rowOk Tryz.prog 33 r33 := ⟨by kernel_rfl, fun _ => by kernel_rfl⟩
def r34 : TRow := ⟨.sl 3, 1, 24, [(Value.slice none 0 0)]⟩
theorem k34 : rowOk Tryz.prog 34 r34 := ⟨by kernel_rfl, fun _ => by kernel_rfl⟩
def r35 : TRow := ⟨.st [(0, 9), (1, 33), (2, 34)], 3, 64, [(Value.string { data := #[] }), (Value.slice none 0 0), (Value.slice none 0 0)]⟩
theorem k35 : rowOk Tryz.prog 35 r35 := ⟨by kernel_rfl, fun _ => by kernel_rfl⟩
def r36 : TRow := ⟨.st [(0, 9), (1, 33), (2, 34)], 3, 64, [(Value.string { data := #[] }), (Value.slice none 0 0), (Value.slice none 0 0)]⟩
theorem k36 : rowOk Tryz.prog 36 r36 := ⟨by kernel_rfl, fun _ => by kernel_rfl⟩
def r37 : TRow := ⟨.st [(0, 3), (1, 24)], 2, 16, [(Value.int IntKind.i64 0), (Value.int IntKind.i64 0)]⟩
theorem k37 : rowOk Tryz.prog 37 r37 := ⟨by kernel_rfl, fun _ => by kernel_rfl⟩
def r38 : TRow := ⟨.st [(0, 3), (1, 24)], 2, 16, [(Value.int IntKind.i64 0), (Value.int IntKind.i64 0)]⟩
theorem k38 : rowOk Tryz.prog 38 r38 := ⟨by kernel_rfl, fun _ => by kernel_rfl⟩
def r40 : TRow := ⟨.fn, 1, 8, [Value.nilFunc]⟩
theorem k40 : rowOk Tryz.prog 40 r40 := ⟨by kernel_rfl, fun _ => by kernel_rfl⟩
def r41 : TRow := ⟨.fn, 1, 8, [Value.nilFunc]⟩
theorem k41 : rowOk Tryz.prog 41 r41 := ⟨by kernel_rfl, fun _ => by kernel_rfl⟩
def r42 : TRow := ⟨.fn, 1, 8, [Value.nilFunc]⟩
theorem k42 : rowOk Tryz.prog 42 r42 := ⟨by kernel_rfl, fun _ => by kernel_rfl⟩
def r43 : TRow := ⟨.fn, 1, 8, [Value.nilFunc]⟩
theorem k43 : rowOk Tryz.prog 43 r43 := ⟨by kernel_rfl, fun _ => by kernel_rfl⟩
def r44 : TRow := ⟨.fn, 1, 8, [Value.nilFunc]⟩
theorem k44 : rowOk Tryz.prog 44 r44 := ⟨by kernel_rfl, fun _ => by kernel_rfl⟩
def r45 : TRow := ⟨.ptr 49, 1, 8, [(Value.pointer none)]⟩
theorem k45 : rowOk Tryz.prog 45 r45 := ⟨by kernel_rfl, fun _ => by kernel_rfl⟩
def r46 : TRow := ⟨.st [(0, 23)], 1, 24, [(Value.slice none 0 0)]⟩
theorem k46 : rowOk Tryz.prog 46 r46 := ⟨by kernel_rfl, fun _ => by kernel_rfl⟩
def r47 : TRow := ⟨.st [(0, 23)], 1, 24, [(Value.slice none 0 0)]⟩
theorem k47 : rowOk Tryz.prog 47 r47 := ⟨by kernel_rfl, fun _ => by kernel_rfl⟩
def r48 : TRow := ⟨.st [(0, 47), (1, 5), (2, 22), (3, 3)], 4, 40, [(Value.slice none 0 0), (Value.int IntKind.u8 0), (Value.int IntKind.u16 0), (Value.int IntKind.i64 0)]⟩
theorem k48 : rowOk Tryz.prog 48 r48 := ⟨by kernel_rfl, fun _ => by kernel_rfl⟩
def r49 : TRow := ⟨.st [(0, 47), (1, 5), (2, 22), (3, 3)], 4, 40, [(Value.slice none 0 0), (Value.int IntKind.u8 0), (Value.int IntKind.u16 0), (Value.int IntKind.i64 0)]⟩
theorem k49 : rowOk Tryz.prog 49 r49 := ⟨by kernel_rfl, fun _ => by kernel_rfl⟩
def r50 : TRow := ⟨.fn, 1, 8, [Value.nilFunc]⟩
theorem k50 : rowOk Tryz.prog 50 r50 := ⟨by kernel_rfl, fun _ => by kernel_rfl⟩
def r51 : TRow := ⟨.int IntKind.u64, 1, 8, [(Value.int IntKind.u64 0)]⟩
theorem k51 : rowOk Tryz.prog 51 r51 := ⟨by kernel_rfl, fun _ => by kernel_rfl⟩
def r52 : TRow := ⟨.fn, 1, 8, [Value.nilFunc]⟩
theorem k52 : rowOk Tryz.prog 52 r52 := ⟨by kernel_rfl, fun _ => by kernel_rfl⟩
def r53 : TRow := ⟨.sl 55, 1, 24, [(Value.slice none 0 0)]⟩
theorem k53 : rowOk Tryz.prog 53 r53 := ⟨by kernel_rfl, fun _ => by kernel_rfl⟩
def r54 : TRow := ⟨.st [(0, 9), (1, 22), (2, 9), (3, 53)], 4, 64, [(Value.string { data := #[] }), (Value.int IntKind.u16 0), (Value.string { data := #[] }), (Value.slice none 0 0)]⟩
theorem k54 : rowOk Tryz.prog 54 r54 := ⟨by kernel_rfl, fun _ => by kernel_rfl⟩
def r55 : TRow := ⟨.st [(0, 9), (1, 22), (2, 9), (3, 53)], 4, 64, [(Value.string { data := #[] }), (Value.int IntKind.u16 0), (Value.string { data := #[] }), (Value.slice none 0 0)]⟩
theorem k55 : rowOk Tryz.prog 55 r55 := ⟨by kernel_rfl, fun _ => by kernel_rfl⟩
def r56 : TRow := ⟨.st [(0, 9), (1, 9), (2, 4), (3, 4), (4, 55)], 8, 104, [(Value.string { data := #[] }), (Value.string { data := #[] }), (Value.bool false), (Value.bool false), (Value.string { data := #[] }), (Value.int IntKind.u16 0), (Value.string { data := #[] }), (Value.slice none 0 0)]⟩
theorem k56 : rowOk Tryz.prog 56 r56 := ⟨by kernel_rfl, fun _ => by kernel_rfl⟩
def r57 : TRow := ⟨.st [(0, 9), (1, 9), (2, 4), (3, 4), (4, 55)], 8, 104, [(Value.string { data := #[] }), (Value.string { data := #[] }), (Value.bool false), (Value.bool false), (Value.string { data := #[] }), (Value.int IntKind.u16 0), (Value.string { data := #[] }), (Value.slice none 0 0)]⟩
theorem k57 : rowOk Tryz.prog 57 r57 := ⟨by kernel_rfl, fun _ => by kernel_rfl⟩
def r58 : TRow := ⟨.fn, 1, 8, [Value.nilFunc]⟩
theorem k58 : rowOk Tryz.prog 58 r58 := ⟨by kernel_rfl, fun _ => by kernel_rfl⟩
def r59 : TRow := ⟨.fn, 1, 8, [Value.nilFunc]⟩
theorem k59 : rowOk Tryz.prog 59 r59 := ⟨by kernel_rfl, fun _ => by kernel_rfl⟩
def r60 : TRow := ⟨.fn, 1, 8, [Value.nilFunc]⟩
theorem k60 : rowOk Tryz.prog 60 r60 := ⟨by kernel_rfl, fun _ => by kernel_rfl⟩
def r61 : TRow := ⟨.fn, 1, 8, [Value.nilFunc]⟩
theorem k61 : rowOk Tryz.prog 61 r61 := ⟨by kernel_rfl, fun _ => by kernel_rfl⟩
def r62 : TRow := ⟨.fn, 1, 8, [Value.nilFunc]⟩
theorem k62 : rowOk Tryz.prog 62 r62 := ⟨by kernel_rfl, fun _ => by kernel_rfl⟩
def r63 : TRow := ⟨.fn, 1, 8, [Value.nilFunc]⟩
theorem k63 : rowOk Tryz.prog 63 r63 := ⟨by kernel_rfl, fun _ => by kernel_rfl⟩
def r64 : TRow := ⟨.fn, 1, 8, [Value.nilFunc]⟩
theorem k64 : rowOk Tryz.prog 64 r64 := ⟨by kernel_rfl, fun _ => by kernel_rfl⟩
def r65 : TRow := ⟨.fn, 1, 8, [Value.nilFunc]⟩
theorem k65 : rowOk Tryz.prog 65 r65 := ⟨by kernel_rfl, fun _ => by kernel_rfl⟩
def r66 : TRow := ⟨.ptr 296, 1, 8, [(Value.pointer none)]⟩
theorem k66 : rowOk Tryz.prog 66 r66 := ⟨by kernel_rfl, fun _ => by kernel_rfl⟩
def r67 : TRow := ⟨.sl 140, 1, 24, [(Value.slice none 0 0)]⟩
theorem k67 : rowOk Tryz.prog 67 r67 := ⟨by kernel_rfl, fun _ => by kernel_rfl⟩
def r68 : TRow := ⟨.sl 135, 1, 24, [(Value.slice none 0 0)]⟩
theorem k68 : rowOk Tryz.prog 68 r68 := ⟨by kernel_rfl, fun _ => by kernel_rfl⟩
def r69 : TRow := ⟨.st [(0, 66), (1, 22), (2, 67), (3, 68), (4, 34)], 5, 88, [(Value.pointer none), (Value.int IntKind.u16 0), (Value.slice none 0 0), (Value.slice none 0 0), (Value.slice none 0 0)]⟩
theorem k69 : rowOk Tryz.prog 69 r69 := ⟨by kernel_rfl, fun _ => by kernel_rfl⟩
def r70 : TRow := ⟨.st [(0, 66), (1, 22), (2, 67), (3, 68), (4, 34)], 5, 88, [(Value.pointer none), (Value.int IntKind.u16 0), (Value.slice none 0 0), (Value.slice none 0 0), (Value.slice none 0 0)]⟩
theorem k70 : rowOk Tryz.prog 70 r70 := ⟨by kernel_rfl, fun _ => by kernel_rfl⟩
def r72 : TRow := ⟨.fn, 1, 8, [Value.nilFunc]⟩
theorem k72 : rowOk Tryz.prog 72 r72 := ⟨by kernel_rfl, fun _ => by kernel_rfl⟩
def r74 : TRow := ⟨.fn, 1, 8, [Value.nilFunc]⟩
theorem k74 : rowOk Tryz.prog 74 r74 := ⟨by kernel_rfl, fun _ => by kernel_rfl⟩
def r75 : TRow := ⟨.ptr 83, 1, 8, [(Value.pointer none)]⟩
theorem k75 : rowOk Tryz.prog 75 r75 := ⟨by kernel_rfl, fun _ => by kernel_rfl⟩
def r76 : TRow := ⟨.fn, 1, 8, [Value.nilFunc]⟩
theorem k76 : rowOk Tryz.prog 76 r76 := ⟨by kernel_rfl, fun _ => by kernel_rfl⟩
def r77 : TRow := ⟨.fn, 1, 8, [Value.nilFunc]⟩
theorem k77 : rowOk Tryz.prog 77 r77 := ⟨by kernel_rfl, fun _ => by kernel_rfl⟩
def r79 : TRow := ⟨.fn, 1, 8, [Value.nilFunc]⟩
theorem k79 : rowOk Tryz.prog 79 r79 := ⟨by kernel_rfl, fun _ => by kernel_rfl⟩
def r80 : TRow := ⟨.map 22 4, 1, 8, [(Value.map none)]⟩
theorem k80 : rowOk Tryz.prog 80 r80 := ⟨by kernel_rfl, fun _ => by kernel_rfl⟩
def r81 : TRow := ⟨.map 9 4, 1, 8, [(Value.map none)]⟩
theorem k81 : rowOk Tryz.prog 81 r81 := ⟨by kernel_rfl, fun _ => by kernel_rfl⟩
def r82 : TRow := ⟨.st [(0, 70), (5, 33), (6, 80), (7, 81), (8, 23)], 9, 152, [(Value.pointer none), (Value.int IntKind.u16 0), (Value.slice none 0 0), (Value.slice none 0 0), (Value.slice none 0 0), (Value.slice none 0 0), (Value.map none), (Value.map none), (Value.slice none 0 0)]⟩
theorem k82 : rowOk Tryz.prog 82 r82 := ⟨by kernel_rfl, fun _ => by kernel_rfl⟩
def r83 : TRow := ⟨.st [(0, 70), (5, 33), (6, 80), (7, 81), (8, 23)], 9, 152, [(Value.pointer none), (Value.int IntKind.u16 0), (Value.slice none 0 0), (Value.slice none 0 0), (Value.slice none 0 0), (Value.slice none 0 0), (Value.map none), (Value.map none), (Value.slice none 0 0)]⟩
theorem k83 : rowOk Tryz.prog 83 r83 := ⟨by kernel_rfl, fun _ => by kernel_rfl⟩
def r84 : TRow := ⟨.st [(0, 22), (1, 5), (2, 22)], 3, 6, [(Value.int IntKind.u16 0), (Value.int IntKind.u8 0), (Value.int IntKind.u16 0)]⟩
theorem k84 : rowOk Tryz.prog 84 r84 := ⟨by kernel_rfl, fun _ => by kernel_rfl⟩
def r85 : TRow := ⟨.st [(0, 22), (1, 5), (2, 22)], 3, 6, [(Value.int IntKind.u16 0), (Value.int IntKind.u8 0), (Value.int IntKind.u16 0)]⟩
theorem k85 : rowOk Tryz.prog 85 r85 := ⟨by kernel_rfl, fun _ => by kernel_rfl⟩
def r86 : TRow := ⟨.fn, 1, 8, [Value.nilFunc]⟩
theorem k86 : rowOk Tryz.prog 86 r86 := ⟨by kernel_rfl, fun _ => by kernel_rfl⟩
def r87 : TRow := ⟨.fn, 1, 8, [Value.nilFunc]⟩
theorem k87 : rowOk Tryz.prog 87 r87 := ⟨by kernel_rfl, fun _ => by kernel_rfl⟩
def r88 : TRow := ⟨.ptr 91, 1, 8, [(Value.pointer none)]⟩
theorem k88 : rowOk Tryz.prog 88 r88 := ⟨by kernel_rfl, fun _ => by kernel_rfl⟩
def r89 : TRow := ⟨.sl 5, 1, 24, [(Value.slice none 0 0)]⟩
theorem k89 : rowOk Tryz.prog 89 r89 := ⟨by kernel_rfl, fun _ => by kernel_rfl⟩
def r90 : TRow := ⟨.st [(0, 88), (1, 89)], 2, 32, [(Value.pointer none), (Value.slice none 0 0)]⟩
theorem k90 : rowOk Tryz.prog 90 r90 := ⟨by kernel_rfl, fun _ => by kernel_rfl⟩
def r91 : TRow := ⟨.st [(0, 88), (1, 89)], 2, 32, [(Value.pointer none), (Value.slice none 0 0)]⟩
theorem k91 : rowOk Tryz.prog 91 r91 := ⟨by kernel_rfl, fun _ => by kernel_rfl⟩
def r93 : TRow := ⟨.fn, 1, 8, [Value.nilFunc]⟩
theorem k93 : rowOk Tryz.prog 93 r93 := ⟨by kernel_rfl, fun _ => by kernel_rfl⟩
def r94 : TRow := ⟨.ifc, 1, 16, [Value.nilIface]⟩
theorem k94 : rowOk Tryz.prog 94 r94 := ⟨by kernel_rfl, fun _ => by kernel_rfl⟩
def r95 : TRow := ⟨.ifc, 1, 16, [Value.nilIface]⟩
theorem k95 : rowOk Tryz.prog 95 r95 := ⟨by kernel_rfl, fun _ => by kernel_rfl⟩
def r97 : TRow := ⟨.fn, 1, 8, [Value.nilFunc]⟩
theorem k97 : rowOk Tryz.prog 97 r97 := ⟨by kernel_rfl, fun _ => by kernel_rfl⟩
def r98 : TRow := ⟨.sl 205, 1, 24, [(Value.slice none 0 0)]⟩
theorem k98 : rowOk Tryz.prog 98 r98 := ⟨by kernel_rfl, fun _ => by kernel_rfl⟩
def r99 : TRow := ⟨.st [(0, 66), (1, 22), (2, 67), (3, 98), (4, 34)], 5, 88, [(Value.pointer none), (Value.int IntKind.u16 0), (Value.slice none 0 0), (Value.slice none 0 0), (Value.slice none 0 0)]⟩
theorem k99 : rowOk Tryz.prog 99 r99 := ⟨by kernel_rfl, fun _ => by kernel_rfl⟩
def r100 : TRow := ⟨.st [(0, 66), (1, 22), (2, 67), (3, 98), (4, 34)], 5, 88, [(Value.pointer none), (Value.int IntKind.u16 0), (Value.slice none 0 0), (Value.slice none 0 0), (Value.slice none 0 0)]⟩
theorem k100 : rowOk Tryz.prog 100 r100 := ⟨by kernel_rfl, fun _ => by kernel_rfl⟩
def r102 : TRow := ⟨.fn, 1, 8, [Value.nilFunc]⟩
theorem k102 : rowOk Tryz.prog 102 r102 := ⟨by kernel_rfl, fun _ => by kernel_rfl⟩
def r103 : TRow := ⟨.fn, 1, 8, [Value.nilFunc]⟩
theorem k103 : rowOk Tryz.prog 103 r103 := ⟨by kernel_rfl, fun _ => by kernel_rfl⟩
def r104 : TRow := ⟨.sl 9, 1, 24, [(Value.slice none 0 0)]⟩
theorem k104 : rowOk Tryz.prog 104 r104 := ⟨by kernel_rfl, fun _ => by kernel_rfl⟩
def r105 : TRow := ⟨.fn, 1, 8, [Value.nilFunc]⟩
theorem k105 : rowOk Tryz.prog 105 r105 := ⟨by kernel_rfl, fun _ => by kernel_rfl⟩
def r106 : TRow := ⟨.ptr 47, 1, 8, [(Value.pointer none)]⟩
theorem k106 : rowOk Tryz.prog 106 r106 := ⟨by kernel_rfl, fun _ => by kernel_rfl⟩
def r107 : TRow := ⟨.fn, 1, 8, [Value.nilFunc]⟩
theorem k107 : rowOk Tryz.prog 107 r107 := ⟨by kernel_rfl, fun _ => by kernel_rfl⟩
def r108 : TRow := ⟨.fn, 1, 8, [Value.nilFunc]⟩
theorem k108 : rowOk Tryz.prog 108 r108 := ⟨by kernel_rfl, fun _ => by kernel_rfl⟩
def r109 : TRow := ⟨.arr 8 9, 8, 128, [(Value.string { data := #[] }), (Value.string { data := #[] }), (Value.string { data := #[] }), (Value.string { data := #[] }), (Value.string { data := #[] }), (Value.string { data := #[] }), (Value.string { data := #[] }), (Value.string { data := #[] })]⟩
theorem k109 : rowOk Tryz.prog 109 r109 := ⟨by kernel_rfl, fun _ => by kernel_rfl⟩
def r110 : TRow := ⟨.fn, 1, 8, [Value.nilFunc]⟩
theorem k110 : rowOk Tryz.prog 110 r110 := ⟨by kernel_rfl, fun _ => by kernel_rfl⟩
def r111 : TRow := ⟨.fn, 1, 8, [Value.nilFunc]⟩
theorem k111 : rowOk Tryz.prog 111 r111 := ⟨by kernel_rfl, fun _ => by kernel_rfl⟩
def r112 : TRow := ⟨.fn, 1, 8, [Value.nilFunc]⟩
theorem k112 : rowOk Tryz.prog 112 r112 := ⟨by kernel_rfl, fun _ => by kernel_rfl⟩
def r113 : TRow := ⟨.fn, 1, 8, [Value.nilFunc]⟩
theorem k113 : rowOk Tryz.prog 113 r113 := ⟨by kernel_rfl, fun _ => by kernel_rfl⟩
def r114 : TRow := ⟨.fn, 1, 8, [Value.nilFunc]⟩
theorem k114 : rowOk Tryz.prog 114 r114 := ⟨by kernel_rfl, fun _ => by kernel_rfl⟩
def r115 : TRow := ⟨.fn, 1, 8, [Value.nilFunc]⟩
theorem k115 : rowOk Tryz.prog 115 r115 := ⟨by kernel_rfl, fun _ => by kernel_rfl⟩
def r116 : TRow := ⟨.fn, 1, 8, [Value.nilFunc]⟩
theorem k116 : rowOk Tryz.prog 116 r116 := ⟨by kernel_rfl, fun _ => by kernel_rfl⟩
def r117 : TRow := ⟨.fn, 1, 8, [Value.nilFunc]⟩
theorem k117 : rowOk Tryz.prog 117 r117 := ⟨by kernel_rfl, fun _ => by kernel_rfl⟩
def r118 : TRow := ⟨.fn, 1, 8, [Value.nilFunc]⟩
theorem k118 : rowOk Tryz.prog 118 r118 := ⟨by kernel_rfl, fun _ => by kernel_rfl⟩
def r119 : TRow := ⟨.sl 172, 1, 24, [(Value.slice none 0 0)]⟩
theorem k119 : rowOk Tryz.prog 119 r119 := ⟨by kernel_rfl, fun _ => by kernel_rfl⟩
def r120 : TRow := ⟨.st [(0, 66), (1, 22), (2, 67), (3, 119), (4, 34)], 5, 88, [(Value.pointer none), (Value.int IntKind.u16 0), (Value.slice none 0 0), (Value.slice none 0 0), (Value.slice none 0 0)]⟩
theorem k120 : rowOk Tryz.prog 120 r120 := ⟨by kernel_rfl, fun _ => by kernel_rfl⟩
def r121 : TRow := ⟨.st [(0, 66), (1, 22), (2, 67), (3, 119), (4, 34)], 5, 88, [(Value.pointer none), (Value.int IntKind.u16 0), (Value.slice none 0 0), (Value.slice none 0 0), (Value.slice none 0 0)]⟩
theorem k121 : rowOk Tryz.prog 121 r121 := ⟨by kernel_rfl, fun _ => by kernel_rfl⟩
def r123 : TRow := ⟨.fn, 1, 8, [Value.nilFunc]⟩
theorem k123 : rowOk Tryz.prog 123 r123 := ⟨by kernel_rfl, fun _ => by kernel_rfl⟩
def r124 : TRow := ⟨.ifc, 1, 16, [Value.nilIface]⟩
theorem k124 : rowOk Tryz.prog 124 r124 := ⟨by kernel_rfl, fun _ => by kernel_rfl⟩
def r125 : TRow := ⟨.ifc, 1, 16, [Value.nilIface]⟩
theorem k125 : rowOk Tryz.prog 125 r125 := ⟨by kernel_rfl, fun _ => by kernel_rfl⟩
def r126 : TRow := ⟨.st [], 0, 0, []⟩
theorem k126 : rowOk Tryz.prog 126 r126 := ⟨by kernel_rfl, fun h => absurd rfl h⟩
def r127 : TRow := ⟨.st [], 0, 0, []⟩
theorem k127 : rowOk Tryz.prog 127 r127 := ⟨by kernel_rfl, fun h => absurd rfl h⟩
def r128 : TRow := ⟨.fn, 1, 8, [Value.nilFunc]⟩
theorem k128 : rowOk Tryz.prog 128 r128 := ⟨by kernel_rfl, fun _ => by kernel_rfl⟩
def r129 : TRow := ⟨.fn, 1, 8, [Value.nilFunc]⟩
theorem k129 : rowOk Tryz.prog 129 r129 := ⟨by kernel_rfl, fun _ => by kernel_rfl⟩
def r130 : TRow := ⟨.fn, 1, 8, [Value.nilFunc]⟩
theorem k130 : rowOk Tryz.prog 130 r130 := ⟨by kernel_rfl, fun _ => by kernel_rfl⟩
def r132 : TRow := ⟨.fn, 1, 8, [Value.nilFunc]⟩
theorem k132 : rowOk Tryz.prog 132 r132 := ⟨by kernel_rfl, fun _ => by kernel_rfl⟩
def r133 : TRow := ⟨.fn, 1, 8, [Value.nilFunc]⟩
theorem k133 : rowOk Tryz.prog 133 r133 := ⟨by kernel_rfl, fun _ => by kernel_rfl⟩
def r134 : TRow := ⟨.st [(0, 3), (1, 22), (2, 3), (3, 89), (4, 22), (5, 55)], 9, 120, [(Value.int IntKind.i64 0), (Value.int IntKind.u16 0), (Value.int IntKind.i64 0), (Value.slice none 0 0), (Value.int IntKind.u16 0), (Value.string { data := #[] }), (Value.int IntKind.u16 0), (Value.string { data := #[] }), (Value.slice none 0 0)]⟩
theorem k134 : rowOk Tryz.prog 134 r134 := ⟨by kernel_rfl, fun _ => by kernel_rfl⟩
def r135 : TRow := ⟨.st [(0, 3), (1, 22), (2, 3), (3, 89), (4, 22), (5, 55)], 9, 120, [(Value.int IntKind.i64 0), (Value.int IntKind.u16 0), (Value.int IntKind.i64 0), (Value.slice none 0 0), (Value.int IntKind.u16 0), (Value.string { data := #[] }), (Value.int IntKind.u16 0), (Value.string { data := #[] }), (Value.slice none 0 0)]⟩
theorem k135 : rowOk Tryz.prog 135 r135 := ⟨by kernel_rfl, fun _ => by kernel_rfl⟩
def r136 : TRow := ⟨.fn, 1, 8, [Value.nilFunc]⟩
theorem k136 : rowOk Tryz.prog 136 r136 := ⟨by kernel_rfl, fun _ => by kernel_rfl⟩
def r137 : TRow := ⟨.fn, 1, 8, [Value.nilFunc]⟩
theorem k137 : rowOk Tryz.prog 137 r137 := ⟨by kernel_rfl, fun _ => by kernel_rfl⟩
def r138 : TRow := ⟨.fn, 1, 8, [Value.nilFunc]⟩
theorem k138 : rowOk Tryz.prog 138 r138 := ⟨by kernel_rfl, fun _ => by kernel_rfl⟩
def r139 : TRow := ⟨.st [(0, 9), (1, 22), (2, 3)], 3, 32, [(Value.string { data := #[] }), (Value.int IntKind.u16 0), (Value.int IntKind.i64 0)]⟩
theorem k139 : rowOk Tryz.prog 139 r139 := ⟨by kernel_rfl, fun _ => by kernel_rfl⟩
def r140 : TRow := ⟨.st [(0, 9), (1, 22), (2, 3)], 3, 32, [(Value.string { data := #[] }), (Value.int IntKind.u16 0), (Value.int IntKind.i64 0)]⟩
theorem k140 : rowOk Tryz.prog 140 r140 := ⟨by kernel_rfl, fun _ => by kernel_rfl⟩
def r141 : TRow := ⟨.fn, 1, 8, [Value.nilFunc]⟩
theorem k141 : rowOk Tryz.prog 141 r141 := ⟨by kernel_rfl, fun _ => by kernel_rfl⟩
def r142 : TRow := ⟨.sl 34, 1, 24, [(Value.slice none 0 0)]⟩
theorem k142 : rowOk Tryz.prog 142 r142 := ⟨by kernel_rfl, fun _ => by kernel_rfl⟩
def r144 : TRow := ⟨.fn, 1, 8, [Value.nilFunc]⟩
theorem k144 : rowOk Tryz.prog 144 r144 := ⟨by kernel_rfl, fun _ => by kernel_rfl⟩
def r145 : TRow := ⟨.fn, 1, 8, [Value.nilFunc]⟩
theorem k145 : rowOk Tryz.prog 145 r145 := ⟨by kernel_rfl, fun _ => by kernel_rfl⟩
def r146 : TRow := ⟨.fn, 1, 8, [Value.nilFunc]⟩
theorem k146 : rowOk Tryz.prog 146 r146 := ⟨by kernel_rfl, fun _ => by kernel_rfl⟩
def r147 : TRow := ⟨.fn, 1, 8, [Value.nilFunc]⟩
theorem k147 : rowOk Tryz.prog 147 r147 := ⟨by kernel_rfl, fun _ => by kernel_rfl⟩
def r148 : TRow := ⟨.fn, 1, 8, [Value.nilFunc]⟩
theorem k148 : rowOk Tryz.prog 148 r148 := ⟨by kernel_rfl, fun _ => by kernel_rfl⟩
def r149 : TRow := ⟨.sl 4, 1, 24, [(Value.slice none 0 0)]⟩
theorem k149 : rowOk Tryz.prog 149 r149 := ⟨by kernel_rfl, fun _ => by kernel_rfl⟩
def r150 : TRow := ⟨.st [(0, 149), (1, 4)], 2, 32, [(Value.slice none 0 0), (Value.bool false)]⟩
theorem k150 : rowOk Tryz.prog 150 r150 := ⟨by kernel_rfl, fun _ => by kernel_rfl⟩
def r151 : TRow := ⟨.st [(0, 149), (1, 4)], 2, 32, [(Value.slice none 0 0), (Value.bool false)]⟩
theorem k151 : rowOk Tryz.prog 151 r151 := ⟨by kernel_rfl, fun _ => by kernel_rfl⟩
def r152 : TRow := ⟨.ptr 151, 1, 8, [(Value.pointer none)]⟩
theorem k152 : rowOk Tryz.prog 152 r152 := ⟨by kernel_rfl, fun _ => by kernel_rfl⟩
def r153 : TRow := ⟨.fn, 1, 8, [Value.nilFunc]⟩
theorem k153 : rowOk Tryz.prog 153 r153 := ⟨by kernel_rfl, fun _ => by kernel_rfl⟩
def r154 : TRow := ⟨.ptr 5, 1, 8, [(Value.pointer none)]⟩
theorem k154 : rowOk Tryz.prog 154 r154 := ⟨by kernel_rfl, fun _ => by kernel_rfl⟩
def r155 : TRow := ⟨.fn, 1, 8, [Value.nilFunc]⟩
theorem k155 : rowOk Tryz.prog 155 r155 := ⟨by kernel_rfl, fun _ => by kernel_rfl⟩
def r156 : TRow := ⟨.fn, 1, 8, [Value.nilFunc]⟩
theorem k156 : rowOk Tryz.prog 156 r156 := ⟨by kernel_rfl, fun _ => by kernel_rfl⟩
def r157 : TRow := ⟨.fn, 1, 8, [Value.nilFunc]⟩
theorem k157 : rowOk Tryz.prog 157 r157 := ⟨by kernel_rfl, fun _ => by kernel_rfl⟩
def r158 : TRow := ⟨.arr 4 9, 4, 64, [(Value.string { data := #[] }), (Value.string { data := #[] }), (Value.string { data := #[] }), (Value.string { data := #[] })]⟩
theorem k158 : rowOk Tryz.prog 158 r158 := ⟨by kernel_rfl, fun _ => by kernel_rfl⟩
def r159 : TRow := ⟨.fn, 1, 8, [Value.nilFunc]⟩
theorem k159 : rowOk Tryz.prog 159 r159 := ⟨by kernel_rfl, fun _ => by kernel_rfl⟩
def r160 : TRow := ⟨.fn, 1, 8, [Value.nilFunc]⟩
theorem k160 : rowOk Tryz.prog 160 r160 := ⟨by kernel_rfl, fun _ => by kernel_rfl⟩
def r161 : TRow := ⟨.sl 9, 1, 24, [(Value.slice none 0 0)]⟩
theorem k161 : rowOk Tryz.prog 161 r161 := ⟨by kernel_rfl, fun _ => by kernel_rfl⟩
def r162 : TRow := ⟨.st [(0, 161)], 1, 24, [(Value.slice none 0 0)]⟩
theorem k162 : rowOk Tryz.prog 162 r162 := ⟨by kernel_rfl, fun _ => by kernel_rfl⟩
def r163 : TRow := ⟨.st [(0, 161)], 1, 24, [(Value.slice none 0 0)]⟩
theorem k163 : rowOk Tryz.prog 163 r163 := ⟨by kernel_rfl, fun _ => by kernel_rfl⟩
def r164 : TRow := ⟨.fn, 1, 8, [Value.nilFunc]⟩
theorem k164 : rowOk Tryz.prog 164 r164 := ⟨by kernel_rfl, fun _ => by kernel_rfl⟩
def r165 : TRow := ⟨.fn, 1, 8, [Value.nilFunc]⟩
theorem k165 : rowOk Tryz.prog 165 r165 := ⟨by kernel_rfl, fun _ => by kernel_rfl⟩
def r166 : TRow := ⟨.fn, 1, 8, [Value.nilFunc]⟩
theorem k166 : rowOk Tryz.prog 166 r166 := ⟨by kernel_rfl, fun _ => by kernel_rfl⟩
def r168 : TRow := ⟨.fn, 1, 8, [Value.nilFunc]⟩
theorem k168 : rowOk Tryz.prog 168 r168 := ⟨by kernel_rfl, fun _ => by kernel_rfl⟩
def r169 : TRow := ⟨.fn, 1, 8, [Value.nilFunc]⟩
theorem k169 : rowOk Tryz.prog 169 r169 := ⟨by kernel_rfl, fun _ => by kernel_rfl⟩
def r170 : TRow := ⟨.fn, 1, 8, [Value.nilFunc]⟩
theorem k170 : rowOk Tryz.prog 170 r170 := ⟨by kernel_rfl, fun _ => by kernel_rfl⟩
def r171 : TRow := ⟨.fn, 1, 8, [Value.nilFunc]⟩
theorem k171 : rowOk Tryz.prog 171 r171 := ⟨by kernel_rfl, fun _ => by kernel_rfl⟩
def r172 : TRow := ⟨.st [(0, 3), (1, 22), (2, 3), (3, 89), (4, 22), (5, 55)], 9, 120, [(Value.int IntKind.i64 0), (Value.int IntKind.u16 0), (Value.int IntKind.i64 0), (Value.slice none 0 0), (Value.int IntKind.u16 0), (Value.string { data := #[] }), (Value.int IntKind.u16 0), (Value.string { data := #[] }), (Value.slice none 0 0)]⟩
theorem k172 : rowOk Tryz.prog 172 r172 := ⟨by kernel_rfl, fun _ => by kernel_rfl⟩
def r173 : TRow := ⟨.fn, 1, 8, [Value.nilFunc]⟩
theorem k173 : rowOk Tryz.prog 173 r173 := ⟨by kernel_rfl, fun _ => by kernel_rfl⟩
def r174 : TRow := ⟨.fn, 1, 8, [Value.nilFunc]⟩
theorem k174 : rowOk Tryz.prog 174 r174 := ⟨by kernel_rfl, fun _ => by kernel_rfl⟩
def r175 : TRow := ⟨.fn, 1, 8, [Value.nilFunc]⟩
theorem k175 : rowOk Tryz.prog 175 r175 := ⟨by kernel_rfl, fun _ => by kernel_rfl⟩
def r176 : TRow := ⟨.fn, 1, 8, [Value.nilFunc]⟩
theorem k176 : rowOk Tryz.prog 176 r176 := ⟨by kernel_rfl, fun _ => by kernel_rfl⟩
def r177 : TRow := ⟨.sl 184, 1, 24, [(Value.slice none 0 0)]⟩
theorem k177 : rowOk Tryz.prog 177 r177 := ⟨by kernel_rfl, fun _ => by kernel_rfl⟩
def r179 : TRow := ⟨.fn, 1, 8, [Value.nilFunc]⟩
theorem k179 : rowOk Tryz.prog 179 r179 := ⟨by kernel_rfl, fun _ => by kernel_rfl⟩
def r180 : TRow := ⟨.sl 184, 1, 24, [(Value.slice none 0 0)]⟩
theorem k180 : rowOk Tryz.prog 180 r180 := ⟨by kernel_rfl, fun _ => by kernel_rfl⟩
def r181 : TRow := ⟨.st [(0, 180), (1, 3)], 2, 32, [(Value.slice none 0 0), (Value.int IntKind.i64 0)]⟩
theorem k181 : rowOk Tryz.prog 181 r181 := ⟨by kernel_rfl, fun _ => by kernel_rfl⟩
def r182 : TRow := ⟨.st [(0, 180), (1, 3)], 2, 32, [(Value.slice none 0 0), (Value.int IntKind.i64 0)]⟩
theorem k182 : rowOk Tryz.prog 182 r182 := ⟨by kernel_rfl, fun _ => by kernel_rfl⟩
def r183 : TRow := ⟨.st [(0, 3), (1, 9), (2, 22)], 3, 32, [(Value.int IntKind.i64 0), (Value.string { data := #[] }), (Value.int IntKind.u16 0)]⟩
theorem k183 : rowOk Tryz.prog 183 r183 := ⟨by kernel_rfl, fun _ => by kernel_rfl⟩
def r184 : TRow := ⟨.st [(0, 3), (1, 9), (2, 22)], 3, 32, [(Value.int IntKind.i64 0), (Value.string { data := #[] }), (Value.int IntKind.u16 0)]⟩
theorem k184 : rowOk Tryz.prog 184 r184 := ⟨by kernel_rfl, fun _ => by kernel_rfl⟩
def r185 : TRow := ⟨.sl 177, 1, 24, [(Value.slice none 0 0)]⟩
theorem k185 : rowOk Tryz.prog 185 r185 := ⟨by kernel_rfl, fun _ => by kernel_rfl⟩
def r186 : TRow := ⟨.fn, 1, 8, [Value.nilFunc]⟩
theorem k186 : rowOk Tryz.prog 186 r186 := ⟨by kernel_rfl, fun _ => by kernel_rfl⟩
def r188 : TRow := ⟨.fn, 1, 8, [Value.nilFunc]⟩
theorem k188 : rowOk Tryz.prog 188 r188 := ⟨by kernel_rfl, fun _ => by kernel_rfl⟩
def r189 : TRow := ⟨.fn, 1, 8, [Value.nilFunc]⟩
theorem k189 : rowOk Tryz.prog 189 r189 := ⟨by kernel_rfl, fun _ => by kernel_rfl⟩
def r190 : TRow := ⟨.fn, 1, 8, [Value.nilFunc]⟩
theorem k190 : rowOk Tryz.prog 190 r190 := ⟨by kernel_rfl, fun _ => by kernel_rfl⟩
def r191 : TRow := ⟨.ptr 194, 1, 8, [(Value.pointer none)]⟩
theorem k191 : rowOk Tryz.prog 191 r191 := ⟨by kernel_rfl, fun _ => by kernel_rfl⟩
def r192 : TRow := ⟨.sl 85, 1, 24, [(Value.slice none 0 0)]⟩
theorem k192 : rowOk Tryz.prog 192 r192 := ⟨by kernel_rfl, fun _ => by kernel_rfl⟩
def r193 : TRow := ⟨.st [(0, 85), (3, 192), (4, 34), (5, 4)], 6, 64, [(Value.int IntKind.u16 0), (Value.int IntKind.u8 0), (Value.int IntKind.u16 0), (Value.slice none 0 0), (Value.slice none 0 0), (Value.bool false)]⟩
theorem k193 : rowOk Tryz.prog 193 r193 := ⟨by kernel_rfl, fun _ => by kernel_rfl⟩
def r194 : TRow := ⟨.st [(0, 85), (3, 192), (4, 34), (5, 4)], 6, 64, [(Value.int IntKind.u16 0), (Value.int IntKind.u8 0), (Value.int IntKind.u16 0), (Value.slice none 0 0), (Value.slice none 0 0), (Value.bool false)]⟩
theorem k194 : rowOk Tryz.prog 194 r194 := ⟨by kernel_rfl, fun _ => by kernel_rfl⟩
def r195 : TRow := ⟨.fn, 1, 8, [Value.nilFunc]⟩
theorem k195 : rowOk Tryz.prog 195 r195 := ⟨by kernel_rfl, fun _ => by kernel_rfl⟩
def r196 : TRow := ⟨.fn, 1, 8, [Value.nilFunc]⟩
theorem k196 : rowOk Tryz.prog 196 r196 := ⟨by kernel_rfl, fun _ => by kernel_rfl⟩
def r197 : TRow := ⟨.fn, 1, 8, [Value.nilFunc]⟩
theorem k197 : rowOk Tryz.prog 197 r197 := ⟨by kernel_rfl, fun _ => by kernel_rfl⟩
def r198 : TRow := ⟨.fn, 1, 8, [Value.nilFunc]⟩
theorem k198 : rowOk Tryz.prog 198 r198 := ⟨by kernel_rfl, fun _ => by kernel_rfl⟩
def r199 : TRow := ⟨.arr 4 3, 4, 32, [(Value.int IntKind.i64 0), (Value.int IntKind.i64 0), (Value.int IntKind.i64 0), (Value.int IntKind.i64 0)]⟩
theorem k199 : rowOk Tryz.prog 199 r199 := ⟨by kernel_rfl, fun _ => by kernel_rfl⟩
def r200 : TRow := ⟨.fn, 1, 8, [Value.nilFunc]⟩
theorem k200 : rowOk Tryz.prog 200 r200 := ⟨by kernel_rfl, fun _ => by kernel_rfl⟩
def r201 : TRow := ⟨.fn, 1, 8, [Value.nilFunc]⟩
theorem k201 : rowOk Tryz.prog 201 r201 := ⟨by kernel_rfl, fun _ => by kernel_rfl⟩
def r202 : TRow := ⟨.fn, 1, 8, [Value.nilFunc]⟩
theorem k202 : rowOk Tryz.prog 202 r202 := ⟨by kernel_rfl, fun _ => by kernel_rfl⟩
def r203 : TRow := ⟨.up, 1, 8, [(Value.pointer none)]⟩
theorem k203 : rowOk Tryz.prog 203 r203 := ⟨by kernel_rfl, fun _ => by kernel_rfl⟩
def r204 : TRow := ⟨.fn, 1, 8, [Value.nilFunc]⟩
theorem k204 : rowOk Tryz.prog 204 r204 := ⟨by kernel_rfl, fun _ => by kernel_rfl⟩
def r205 : TRow := ⟨.st [(0, 3), (1, 22), (2, 3), (3, 89), (4, 22), (5, 55)], 9, 120, [(Value.int IntKind.i64 0), (Value.int IntKind.u16 0), (Value.int IntKind.i64 0), (Value.slice none 0 0), (Value.int IntKind.u16 0), (Value.string { data := #[] }), (Value.int IntKind.u16 0), (Value.string { data := #[] }), (Value.slice none 0 0)]⟩
theorem k205 : rowOk Tryz.prog 205 r205 := ⟨by kernel_rfl, fun _ => by kernel_rfl⟩
def r206 : TRow := ⟨.fn, 1, 8, [Value.nilFunc]⟩
theorem k206 : rowOk Tryz.prog 206 r206 := ⟨by kernel_rfl, fun _ => by kernel_rfl⟩
def r207 : TRow := ⟨.fn, 1, 8, [Value.nilFunc]⟩
theorem k207 : rowOk Tryz.prog 207 r207 := ⟨by kernel_rfl, fun _ => by kernel_rfl⟩
def r208 : TRow := ⟨.fn, 1, 8, [Value.nilFunc]⟩
theorem k208 : rowOk Tryz.prog 208 r208 := ⟨by kernel_rfl, fun _ => by kernel_rfl⟩
def r210 : TRow := ⟨.fn, 1, 8, [Value.nilFunc]⟩
theorem k210 : rowOk Tryz.prog 210 r210 := ⟨by kernel_rfl, fun _ => by kernel_rfl⟩
def r211 : TRow := ⟨.fn, 1, 8, [Value.nilFunc]⟩
theorem k211 : rowOk Tryz.prog 211 r211 := ⟨by kernel_rfl, fun _ => by kernel_rfl⟩
def r212 : TRow := ⟨.fn, 1, 8, [Value.nilFunc]⟩
theorem k212 : rowOk Tryz.prog 212 r212 := ⟨by kernel_rfl, fun _ => by kernel_rfl⟩
def r213 : TRow := ⟨.ptr 224, 1, 8, [(Value.pointer none)]⟩
theorem k213 : rowOk Tryz.prog 213 r213 := ⟨by kernel_rfl, fun _ => by kernel_rfl⟩
def r214 : TRow := ⟨.ptr 260, 1, 8, [(Value.pointer none)]⟩
theorem k214 : rowOk Tryz.prog 214 r214 := ⟨by kernel_rfl, fun _ => by kernel_rfl⟩
def r215 : TRow := ⟨.fn, 1, 8, [Value.nilFunc]⟩
theorem k215 : rowOk Tryz.prog 215 r215 := ⟨by kernel_rfl, fun _ => by kernel_rfl⟩
def r216 : TRow := ⟨.st [(0, 3)], 1, 8, [(Value.int IntKind.i64 0)]⟩
theorem k216 : rowOk Tryz.prog 216 r216 := ⟨by kernel_rfl, fun _ => by kernel_rfl⟩
def r217 : TRow := ⟨.st [(0, 3)], 1, 8, [(Value.int IntKind.i64 0)]⟩
theorem k217 : rowOk Tryz.prog 217 r217 := ⟨by kernel_rfl, fun _ => by kernel_rfl⟩
def r218 : TRow := ⟨.st [(0, 4), (1, 3)], 2, 16, [(Value.bool false), (Value.int IntKind.i64 0)]⟩
theorem k218 : rowOk Tryz.prog 218 r218 := ⟨by kernel_rfl, fun _ => by kernel_rfl⟩
def r219 : TRow := ⟨.st [(0, 4), (1, 3)], 2, 16, [(Value.bool false), (Value.int IntKind.i64 0)]⟩
theorem k219 : rowOk Tryz.prog 219 r219 := ⟨by kernel_rfl, fun _ => by kernel_rfl⟩
def r220 : TRow := ⟨.arr 8 219, 16, 128, [(Value.bool false), (Value.int IntKind.i64 0), (Value.bool false), (Value.int IntKind.i64 0), (Value.bool false), (Value.int IntKind.i64 0), (Value.bool false), (Value.int IntKind.i64 0), (Value.bool false), (Value.int IntKind.i64 0), (Value.bool false), (Value.int IntKind.i64 0), (Value.bool false), (Value.int IntKind.i64 0), (Value.bool false), (Value.int IntKind.i64 0)]⟩
theorem k220 : rowOk Tryz.prog 220 r220 := ⟨by kernel_rfl, fun _ => by kernel_rfl⟩
def r221 : TRow := ⟨.st [(0, 220), (16, 3)], 17, 136, [(Value.bool false), (Value.int IntKind.i64 0), (Value.bool false), (Value.int IntKind.i64 0), (Value.bool false), (Value.int IntKind.i64 0), (Value.bool false), (Value.int IntKind.i64 0), (Value.bool false), (Value.int IntKind.i64 0), (Value.bool false), (Value.int IntKind.i64 0), (Value.bool false), (Value.int IntKind.i64 0), (Value.bool false), (Value.int IntKind.i64 0), (Value.int IntKind.i64 0)]⟩
theorem k221 : rowOk Tryz.prog 221 r221 := ⟨by kernel_rfl, fun _ => by kernel_rfl⟩
def r222 : TRow := ⟨.st [(0, 220), (16, 3)], 17, 136, [(Value.bool false), (Value.int IntKind.i64 0), (Value.bool false), (Value.int IntKind.i64 0), (Value.bool false), (Value.int IntKind.i64 0), (Value.bool false), (Value.int IntKind.i64 0), (Value.bool false), (Value.int IntKind.i64 0), (Value.bool false), (Value.int IntKind.i64 0), (Value.bool false), (Value.int IntKind.i64 0), (Value.bool false), (Value.int IntKind.i64 0), (Value.int IntKind.i64 0)]⟩
theorem k222 : rowOk Tryz.prog 222 r222 := ⟨by kernel_rfl, fun _ => by kernel_rfl⟩
def r223 : TRow := ⟨.st [(0, 217), (1, 222), (18, 125), (19, 4), (20, 4), (21, 4), (22, 214), (23, 121)], 28, 264, [(Value.int IntKind.i64 0), (Value.bool false), (Value.int IntKind.i64 0), (Value.bool false), (Value.int IntKind.i64 0), (Value.bool false), (Value.int IntKind.i64 0), (Value.bool false), (Value.int IntKind.i64 0), (Value.bool false), (Value.int IntKind.i64 0), (Value.bool false), (Value.int IntKind.i64 0), (Value.bool false), (Value.int IntKind.i64 0), (Value.bool false), (Value.int IntKind.i64 0), (Value.int IntKind.i64 0), Value.nilIface, (Value.bool false), (Value.bool false), (Value.bool false), (Value.pointer none), (Value.pointer none), (Value.int IntKind.u16 0), (Value.slice none 0 0), (Value.slice none 0 0), (Value.slice none 0 0)]⟩
theorem k223 : rowOk Tryz.prog 223 r223 := ⟨by kernel_rfl, fun _ => by kernel_rfl⟩
def r224 : TRow := ⟨.st [(0, 217), (1, 222), (18, 125), (19, 4), (20, 4), (21, 4), (22, 214), (23, 121)], 28, 264, [(Value.int IntKind.i64 0), (Value.bool false), (Value.int IntKind.i64 0), (Value.bool false), (Value.int IntKind.i64 0), (Value.bool false), (Value.int IntKind.i64 0), (Value.bool false), (Value.int IntKind.i64 0), (Value.bool false), (Value.int IntKind.i64 0), (Value.bool false), (Value.int IntKind.i64 0), (Value.bool false), (Value.int IntKind.i64 0), (Value.bool false), (Value.int IntKind.i64 0), (Value.int IntKind.i64 0), Value.nilIface, (Value.bool false), (Value.bool false), (Value.bool false), (Value.pointer none), (Value.pointer none), (Value.int IntKind.u16 0), (Value.slice none 0 0), (Value.slice none 0 0), (Value.slice none 0 0)]⟩
theorem k224 : rowOk Tryz.prog 224 r224 := ⟨by kernel_rfl, fun _ => by kernel_rfl⟩
def r225 : TRow := ⟨.arr 2 4, 2, 2, [(Value.bool false), (Value.bool false)]⟩
theorem k225 : rowOk Tryz.prog 225 r225 := ⟨by kernel_rfl, fun _ => by kernel_rfl⟩
def r226 : TRow := ⟨.fn, 1, 8, [Value.nilFunc]⟩
theorem k226 : rowOk Tryz.prog 226 r226 := ⟨by kernel_rfl, fun _ => by kernel_rfl⟩
def r227 : TRow := ⟨.fn, 1, 8, [Value.nilFunc]⟩
theorem k227 : rowOk Tryz.prog 227 r227 := ⟨by kernel_rfl, fun _ => by kernel_rfl⟩
def r228 : TRow := ⟨.fn, 1, 8, [Value.nilFunc]⟩
theorem k228 : rowOk Tryz.prog 228 r228 := ⟨by kernel_rfl, fun _ => by kernel_rfl⟩
def r230 : TRow := ⟨.fn, 1, 8, [Value.nilFunc]⟩
theorem k230 : rowOk Tryz.prog 230 r230 := ⟨by kernel_rfl, fun _ => by kernel_rfl⟩
def r231 : TRow := ⟨.fn, 1, 8, [Value.nilFunc]⟩
theorem k231 : rowOk Tryz.prog 231 r231 := ⟨by kernel_rfl, fun _ => by kernel_rfl⟩
def r232 : TRow := ⟨.fn, 1, 8, [Value.nilFunc]⟩
theorem k232 : rowOk Tryz.prog 232 r232 := ⟨by kernel_rfl, fun _ => by kernel_rfl⟩
def r234 : TRow := ⟨.fn, 1, 8, [Value.nilFunc]⟩
theorem k234 : rowOk Tryz.prog 234 r234 := ⟨by kernel_rfl, fun _ => by kernel_rfl⟩
def r235 : TRow := ⟨.fn, 1, 8, [Value.nilFunc]⟩
theorem k235 : rowOk Tryz.prog 235 r235 := ⟨by kernel_rfl, fun _ => by kernel_rfl⟩
def r236 : TRow := ⟨.int IntKind.i64, 1, 8, [(Value.int IntKind.i64 0)]⟩
theorem k236 : rowOk Tryz.prog 236 r236 := ⟨by kernel_rfl, fun _ => by kernel_rfl⟩
def r238 : TRow := ⟨.fn, 1, 8, [Value.nilFunc]⟩
theorem k238 : rowOk Tryz.prog 238 r238 := ⟨by kernel_rfl, fun _ => by kernel_rfl⟩
def r239 : TRow := ⟨.fn, 1, 8, [Value.nilFunc]⟩
theorem k239 : rowOk Tryz.prog 239 r239 := ⟨by kernel_rfl, fun _ => by kernel_rfl⟩
def r240 : TRow := ⟨.fn, 1, 8, [Value.nilFunc]⟩
theorem k240 : rowOk Tryz.prog 240 r240 := ⟨by kernel_rfl, fun _ => by kernel_rfl⟩
def r242 : TRow := ⟨.fn, 1, 8, [Value.nilFunc]⟩
theorem k242 : rowOk Tryz.prog 242 r242 := ⟨by kernel_rfl, fun _ => by kernel_rfl⟩
def r243 : TRow := ⟨.fn, 1, 8, [Value.nilFunc]⟩
theorem k243 : rowOk Tryz.prog 243 r243 := ⟨by kernel_rfl, fun _ => by kernel_rfl⟩
def r244 : TRow := ⟨.int IntKind.u32, 1, 4, [(Value.int IntKind.u32 0)]⟩
theorem k244 : rowOk Tryz.prog 244 r244 := ⟨by kernel_rfl, fun _ => by kernel_rfl⟩
def r245 : TRow := ⟨.fn, 1, 8, [Value.nilFunc]⟩
theorem k245 : rowOk Tryz.prog 245 r245 := ⟨by kernel_rfl, fun _ => by kernel_rfl⟩
def r246 : TRow := ⟨.int IntKind.u64, 1, 8, [(Value.int IntKind.u64 0)]⟩
theorem k246 : rowOk Tryz.prog 246 r246 := ⟨by kernel_rfl, fun _ => by kernel_rfl⟩
def r247 : TRow := ⟨.fn, 1, 8, [Value.nilFunc]⟩
theorem k247 : rowOk Tryz.prog 247 r247 := ⟨by kernel_rfl, fun _ => by kernel_rfl⟩
def r248 : TRow := ⟨.fn, 1, 8, [Value.nilFunc]⟩
theorem k248 : rowOk Tryz.prog 248 r248 := ⟨by kernel_rfl, fun _ => by kernel_rfl⟩
def r249 : TRow := ⟨.fn, 1, 8, [Value.nilFunc]⟩
theorem k249 : rowOk Tryz.prog 249 r249 := ⟨by kernel_rfl, fun _ => by kernel_rfl⟩
def r250 : TRow := ⟨.fn, 1, 8, [Value.nilFunc]⟩
theorem k250 : rowOk Tryz.prog 250 r250 := ⟨by kernel_rfl, fun _ => by kernel_rfl⟩
def r251 : TRow := ⟨.fn, 1, 8, [Value.nilFunc]⟩
theorem k251 : rowOk Tryz.prog 251 r251 := ⟨by kernel_rfl, fun _ => by kernel_rfl⟩
def r252 : TRow := ⟨.arr 256 5, 256, 256, [(Value.int IntKind.u8 0), (Value.int IntKind.u8 0), (Value.int IntKind.u8 0), (Value.int IntKind.u8 0), (Value.int IntKind.u8 0), (Value.int IntKind.u8 0), (Value.int IntKind.u8 0), (Value.int IntKind.u8 0), (Value.int IntKind.u8 0), (Value.int IntKind.u8 0), (Value.int IntKind.u8 0), (Value.int IntKind.u8 0), (Value.int IntKind.u8 0), (Value.int IntKind.u8 0), (Value.int IntKind.u8 0), (Value.int IntKind.u8 0), (Value.int IntKind.u8 0), (Value.int IntKind.u8 0), (Value.int IntKind.u8 0), (Value.int IntKind.u8 0), (Value.int IntKind.u8 0), (Value.int IntKind.u8 0), (Value.int IntKind.u8 0), (Value.int IntKind.u8 0), (Value.int IntKind.u8 0), (Value.int IntKind.u8 0), (Value.int IntKind.u8 0), (Value.int IntKind.u8 0), (Value.int IntKind.u8 0), (Value.int IntKind.u8 0), (Value.int IntKind.u8 0), (Value.int IntKind.u8 0), (Value.int IntKind.u8 0), (Value.int IntKind.u8 0), (Value.int IntKind.u8 0), (Value.int IntKind.u8 0), (Value.int IntKind.u8 0), (Value.int IntKind.u8 0), (Value.int IntKind.u8 0), (Value.int IntKind.u8 0), (Value.int IntKind.u8 0), (Value.int IntKind.u8 0), (Value.int IntKind.u8 0), (Value.int IntKind.u8 0), (Value.int IntKind.u8 0), (Value.int IntKind.u8 0), (Value.int IntKind.u8 0), (Value.int IntKind.u8 0), (Value.int IntKind.u8 0), (Value.int IntKind.u8 0), (Value.int IntKind.u8 0), (Value.int IntKind.u8 0), (Value.int IntKind.u8 0), (Value.int IntKind.u8 0), (Value.int IntKind.u8 0), (Value.int IntKind.u8 0), (Value.int IntKind.u8 0), (Value.int IntKind.u8 0), (Value.int IntKind.u8 0), (Value.int IntKind.u8 0), (Value.int IntKind.u8 0), (Value.int IntKind.u8 0), (Value.int IntKind.u8 0), (Value.int IntKind.u8 0), (Value.int IntKind.u8 0), (Value.int IntKind.u8 0), (Value.int IntKind.u8 0), (Value.int IntKind.u8 0), (Value.int IntKind.u8 0), (Value.int IntKind.u8 0), (Value.int IntKind.u8 0), (Value.int IntKind.u8 0), (Value.int IntKind.u8 0), (Value.int IntKind.u8 0), (Value.int IntKind.u8 0), (Value.int IntKind.u8 0), (Value.int IntKind.u8 0), (Value.int IntKind.u8 0), (Value.int IntKind.u8 0), (Value.int IntKind.u8 0), (Value.int IntKind.u8 0), (Value.int IntKind.u8 0), (Value.int IntKind.u8 0), (Value.int IntKind.u8 0), (Value.int IntKind.u8 0), (Value.int IntKind.u8 0), (Value.int IntKind.u8 0), (Value.int IntKind.u8 0), (Value.int IntKind.u8 0), (Value.int IntKind.u8 0), (Value.int IntKind.u8 0), (Value.int IntKind.u8 0), (Value.int IntKind.u8 0), (Value.int IntKind.u8 0), (Value.int IntKind.u8 0), (Value.int IntKind.u8 0), (Value.int IntKind.u8 0), (Value.int IntKind.u8 0), (Value.int IntKind.u8 0), (Value.int IntKind.u8 0), (Value.int IntKind.u8 0), (Value.int IntKind.u8 0), (Value.int IntKind.u8 0), (Value.int IntKind.u8 0), (Value.int IntKind.u8 0), (Value.int IntKind.u8 0), (Value.int IntKind.u8 0), (Value.int IntKind.u8 0), (Value.int IntKind.u8 0), (Value.int IntKind.u8 0), (Value.int IntKind.u8 0), (Value.int IntKind.u8 0), (Value.int IntKind.u8 0), (Value.int IntKind.u8 0), (Value.int IntKind.u8 0), (Value.int IntKind.u8 0), (Value.int IntKind.u8 0), (Value.int IntKind.u8 0), (Value.int IntKind.u8 0), (Value.int IntKind.u8 0), (Value.int IntKind.u8 0), (Value.int IntKind.u8 0), (Value.int IntKind.u8 0), (Value.int IntKind.u8 0), (Value.int IntKind.u8 0), (Value.int IntKind.u8 0), (Value.int IntKind.u8 0), (Value.int IntKind.u8 0), (Value.int IntKind.u8 0), (Value.int IntKind.u8 0), (Value.int IntKind.u8 0), (Value.int IntKind.u8 0), (Value.int IntKind.u8 0), (Value.int IntKind.u8 0), (Value.int IntKind.u8 0), (Value.int IntKind.u8 0), (Value.int IntKind.u8 0), (Value.int IntKind.u8 0), (Value.int IntKind.u8 0), (Value.int IntKind.u8 0), (Value.int IntKind.u8 0), (Value.int IntKind.u8 0), (Value.int IntKind.u8 0), (Value.int IntKind.u8 0), (Value.int IntKind.u8 0), (Value.int IntKind.u8 0), (Value.int IntKind.u8 0), (Value.int IntKind.u8 0), (Value.int IntKind.u8 0), (Value.int IntKind.u8 0), (Value.int IntKind.u8 0), (Value.int IntKind.u8 0), (Value.int IntKind.u8 0), (Value.int IntKind.u8 0), (Value.int IntKind.u8 0), (Value.int IntKind.u8 0), (Value.int IntKind.u8 0), (Value.int IntKind.u8 0), (Value.int IntKind.u8 0), (Value.int IntKind.u8 0), (Value.int IntKind.u8 0), (Value.int IntKind.u8 0), (Value.int IntKind.u8 0), (Value.int IntKind.u8 0), (Value.int IntKind.u8 0), (Value.int IntKind.u8 0), (Value.int IntKind.u8 0), (Value.int IntKind.u8 0), (Value.int IntKind.u8 0), (Value.int IntKind.u8 0), (Value.int IntKind.u8 0), (Value.int IntKind.u8 0), (Value.int IntKind.u8 0), (Value.int IntKind.u8 0), (Value.int IntKind.u8 0), (Value.int IntKind.u8 0), (Value.int IntKind.u8 0), (Value.int IntKind.u8 0), (Value.int IntKind.u8 0), (Value.int IntKind.u8 0), (Value.int IntKind.u8 0), (Value.int IntKind.u8 0), (Value.int IntKind.u8 0), (Value.int IntKind.u8 0), (Value.int IntKind.u8 0), (Value.int IntKind.u8 0), (Value.int IntKind.u8 0), (Value.int IntKind.u8 0), (Value.int IntKind.u8 0), (Value.int IntKind.u8 0), (Value.int IntKind.u8 0), (Value.int IntKind.u8 0), (Value.int IntKind.u8 0), (Value.int IntKind.u8 0), (Value.int IntKind.u8 0), (Value.int IntKind.u8 0), (Value.int IntKind.u8 0), (Value.int IntKind.u8 0), (Value.int IntKind.u8 0), (Value.int IntKind.u8 0), (Value.int IntKind.u8 0), (Value.int IntKind.u8 0), (Value.int IntKind.u8 0), (Value.int IntKind.u8 0), (Value.int IntKind.u8 0), (Value.int IntKind.u8 0), (Value.int IntKind.u8 0), (Value.int IntKind.u8 0), (Value.int IntKind.u8 0), (Value.int IntKind.u8 0), (Value.int IntKind.u8 0), (Value.int IntKind.u8 0), (Value.int IntKind.u8 0), (Value.int IntKind.u8 0), (Value.int IntKind.u8 0), (Value.int IntKind.u8 0), (Value.int IntKind.u8 0), (Value.int IntKind.u8 0), (Value.int IntKind.u8 0), (Value.int IntKind.u8 0), (Value.int IntKind.u8 0), (Value.int IntKind.u8 0), (Value.int IntKind.u8 0), (Value.int IntKind.u8 0), (Value.int IntKind.u8 0), (Value.int IntKind.u8 0), (Value.int IntKind.u8 0), (Value.int IntKind.u8 0), (Value.int IntKind.u8 0), (Value.int IntKind.u8 0), (Value.int IntKind.u8 0), (Value.int IntKind.u8 0), (Value.int IntKind.u8 0), (Value.int IntKind.u8 0), (Value.int IntKind.u8 0), (Value.int IntKind.u8 0), (Value.int IntKind.u8 0), (Value.int IntKind.u8 0), (Value.int IntKind.u8 0), (Value.int IntKind.u8 0), (Value.int IntKind.u8 0), (Value.int IntKind.u8 0), (Value.int IntKind.u8 0), (Value.int IntKind.u8 0), (Value.int IntKind.u8 0), (Value.int IntKind.u8 0), (Value.int IntKind.u8 0), (Value.int IntKind.u8 0), (Value.int IntKind.u8 0), (Value.int IntKind.u8 0), (Value.int IntKind.u8 0), (Value.int IntKind.u8 0), (Value.int IntKind.u8 0), (Value.int IntKind.u8 0), (Value.int IntKind.u8 0), (Value.int IntKind.u8 0)]⟩
theorem k252 : rowOk Tryz.prog 252 r252 := ⟨by kernel_rfl, fun _ => by kernel_rfl⟩
def r253 : TRow := ⟨.fn, 1, 8, [Value.nilFunc]⟩
theorem k253 : rowOk Tryz.prog 253 r253 := ⟨by kernel_rfl, fun _ => by kernel_rfl⟩
def r254 : TRow := ⟨.fn, 1, 8, [Value.nilFunc]⟩
theorem k254 : rowOk Tryz.prog 254 r254 := ⟨by kernel_rfl, fun _ => by kernel_rfl⟩
def r256 : TRow := ⟨.fn, 1, 8, [Value.nilFunc]⟩
theorem k256 : rowOk Tryz.prog 256 r256 := ⟨by kernel_rfl, fun _ => by kernel_rfl⟩
def r257 : TRow := ⟨.fn, 1, 8, [Value.nilFunc]⟩
theorem k257 : rowOk Tryz.prog 257 r257 := ⟨by kernel_rfl, fun _ => by kernel_rfl⟩
def r258 : TRow := ⟨.map 9 140, 1, 8, [(Value.map none)]⟩
theorem k258 : rowOk Tryz.prog 258 r258 := ⟨by kernel_rfl, fun _ => by kernel_rfl⟩
def r259 : TRow := ⟨.st [(0, 258)], 1, 8, [(Value.map none)]⟩
theorem k259 : rowOk Tryz.prog 259 r259 := ⟨by kernel_rfl, fun _ => by kernel_rfl⟩
def r260 : TRow := ⟨.st [(0, 258)], 1, 8, [(Value.map none)]⟩
theorem k260 : rowOk Tryz.prog 260 r260 := ⟨by kernel_rfl, fun _ => by kernel_rfl⟩
def r261 : TRow := ⟨.fn, 1, 8, [Value.nilFunc]⟩
theorem k261 : rowOk Tryz.prog 261 r261 := ⟨by kernel_rfl, fun _ => by kernel_rfl⟩
def r262 : TRow := ⟨.fn, 1, 8, [Value.nilFunc]⟩
theorem k262 : rowOk Tryz.prog 262 r262 := ⟨by kernel_rfl, fun _ => by kernel_rfl⟩
def r263 : TRow := ⟨.fn, 1, 8, [Value.nilFunc]⟩
theorem k263 : rowOk Tryz.prog 263 r263 := ⟨by kernel_rfl, fun _ => by kernel_rfl⟩
def r264 : TRow := ⟨.fn, 1, 8, [Value.nilFunc]⟩
theorem k264 : rowOk Tryz.prog 264 r264 := ⟨by kernel_rfl, fun _ => by kernel_rfl⟩
def r265 : TRow := ⟨.fn, 1, 8, [Value.nilFunc]⟩
theorem k265 : rowOk Tryz.prog 265 r265 := ⟨by kernel_rfl, fun _ => by kernel_rfl⟩
def r266 : TRow := ⟨.fn, 1, 8, [Value.nilFunc]⟩
theorem k266 : rowOk Tryz.prog 266 r266 := ⟨by kernel_rfl, fun _ => by kernel_rfl⟩
def r267 : TRow := ⟨.fn, 1, 8, [Value.nilFunc]⟩
theorem k267 : rowOk Tryz.prog 267 r267 := ⟨by kernel_rfl, fun _ => by kernel_rfl⟩
def r268 : TRow := ⟨.fn, 1, 8, [Value.nilFunc]⟩
theorem k268 : rowOk Tryz.prog 268 r268 := ⟨by kernel_rfl, fun _ => by kernel_rfl⟩
def r270 : TRow := ⟨.fn, 1, 8, [Value.nilFunc]⟩
theorem k270 : rowOk Tryz.prog 270 r270 := ⟨by kernel_rfl, fun _ => by kernel_rfl⟩
def r272 : TRow := ⟨.fn, 1, 8, [Value.nilFunc]⟩
theorem k272 : rowOk Tryz.prog 272 r272 := ⟨by kernel_rfl, fun _ => by kernel_rfl⟩
def r273 : TRow := ⟨.int IntKind.u64, 1, 8, [(Value.int IntKind.u64 0)]⟩
theorem k273 : rowOk Tryz.prog 273 r273 := ⟨by kernel_rfl, fun _ => by kernel_rfl⟩
def r274 : TRow := ⟨.fn, 1, 8, [Value.nilFunc]⟩
theorem k274 : rowOk Tryz.prog 274 r274 := ⟨by kernel_rfl, fun _ => by kernel_rfl⟩
def r275 : TRow := ⟨.fn, 1, 8, [Value.nilFunc]⟩
theorem k275 : rowOk Tryz.prog 275 r275 := ⟨by kernel_rfl, fun _ => by kernel_rfl⟩
def r276 : TRow := ⟨.fn, 1, 8, [Value.nilFunc]⟩
theorem k276 : rowOk Tryz.prog 276 r276 := ⟨by kernel_rfl, fun _ => by kernel_rfl⟩
def r277 : TRow := ⟨.ptr 3, 1, 8, [(Value.pointer none)]⟩
theorem k277 : rowOk Tryz.prog 277 r277 := ⟨by kernel_rfl, fun _ => by kernel_rfl⟩
def r278 : TRow := ⟨.fn, 1, 8, [Value.nilFunc]⟩
theorem k278 : rowOk Tryz.prog 278 r278 := ⟨by kernel_rfl, fun _ => by kernel_rfl⟩
def r279 : TRow := ⟨.fn, 1, 8, [Value.nilFunc]⟩
theorem k279 : rowOk Tryz.prog 279 r279 := ⟨by kernel_rfl, fun _ => by kernel_rfl⟩
def r280 : TRow := ⟨.fn, 1, 8, [Value.nilFunc]⟩
theorem k280 : rowOk Tryz.prog 280 r280 := ⟨by kernel_rfl, fun _ => by kernel_rfl⟩
def r281 : TRow := ⟨.fn, 1, 8, [Value.nilFunc]⟩
theorem k281 : rowOk Tryz.prog 281 r281 := ⟨by kernel_rfl, fun _ => by kernel_rfl⟩
def r282 : TRow := ⟨.fn, 1, 8, [Value.nilFunc]⟩
theorem k282 : rowOk Tryz.prog 282 r282 := ⟨by kernel_rfl, fun _ => by kernel_rfl⟩
def r283 : TRow := ⟨.fn, 1, 8, [Value.nilFunc]⟩
theorem k283 : rowOk Tryz.prog 283 r283 := ⟨by kernel_rfl, fun _ => by kernel_rfl⟩
def r284 : TRow := ⟨.fn, 1, 8, [Value.nilFunc]⟩
theorem k284 : rowOk Tryz.prog 284 r284 := ⟨by kernel_rfl, fun _ => by kernel_rfl⟩
def r285 : TRow := ⟨.fn, 1, 8, [Value.nilFunc]⟩
theorem k285 : rowOk Tryz.prog 285 r285 := ⟨by kernel_rfl, fun _ => by kernel_rfl⟩
def r286 : TRow := ⟨.fn, 1, 8, [Value.nilFunc]⟩
theorem k286 : rowOk Tryz.prog 286 r286 := ⟨by kernel_rfl, fun _ => by kernel_rfl⟩
def r287 : TRow := ⟨.fn, 1, 8, [Value.nilFunc]⟩
theorem k287 : rowOk Tryz.prog 287 r287 := ⟨by kernel_rfl, fun _ => by kernel_rfl⟩
def r288 : TRow := ⟨.sl 290, 1, 24, [(Value.slice none 0 0)]⟩
theorem k288 : rowOk Tryz.prog 288 r288 := ⟨by kernel_rfl, fun _ => by kernel_rfl⟩
def r289 : TRow := ⟨.st [(0, 3), (1, 3)], 2, 16, [(Value.int IntKind.i64 0), (Value.int IntKind.i64 0)]⟩
theorem k289 : rowOk Tryz.prog 289 r289 := ⟨by kernel_rfl, fun _ => by kernel_rfl⟩
def r290 : TRow := ⟨.st [(0, 3), (1, 3)], 2, 16, [(Value.int IntKind.i64 0), (Value.int IntKind.i64 0)]⟩
theorem k290 : rowOk Tryz.prog 290 r290 := ⟨by kernel_rfl, fun _ => by kernel_rfl⟩
def r291 : TRow := ⟨.fn, 1, 8, [Value.nilFunc]⟩
theorem k291 : rowOk Tryz.prog 291 r291 := ⟨by kernel_rfl, fun _ => by kernel_rfl⟩
def r292 : TRow := ⟨.ptr 329, 1, 8, [(Value.pointer none)]⟩
theorem k292 : rowOk Tryz.prog 292 r292 := ⟨by kernel_rfl, fun _ => by kernel_rfl⟩
def r297 : TRow := ⟨.fn, 1, 8, [Value.nilFunc]⟩
theorem k297 : rowOk Tryz.prog 297 r297 := ⟨by kernel_rfl, fun _ => by kernel_rfl⟩
def r298 : TRow := ⟨.fn, 1, 8, [Value.nilFunc]⟩
theorem k298 : rowOk Tryz.prog 298 r298 := ⟨by kernel_rfl, fun _ => by kernel_rfl⟩
def r300 : TRow := ⟨.fn, 1, 8, [Value.nilFunc]⟩
theorem k300 : rowOk Tryz.prog 300 r300 := ⟨by kernel_rfl, fun _ => by kernel_rfl⟩
def r301 : TRow := ⟨.fn, 1, 8, [Value.nilFunc]⟩
theorem k301 : rowOk Tryz.prog 301 r301 := ⟨by kernel_rfl, fun _ => by kernel_rfl⟩
def r302 : TRow := ⟨.st [(0, 3), (1, 3), (2, 301)], 3, 24, [(Value.int IntKind.i64 0), (Value.int IntKind.i64 0), Value.nilFunc]⟩
theorem k302 : rowOk Tryz.prog 302 r302 := ⟨by kernel_rfl, fun _ => by kernel_rfl⟩
def r303 : TRow := ⟨.st [(0, 3), (1, 3), (2, 301)], 3, 24, [(Value.int IntKind.i64 0), (Value.int IntKind.i64 0), Value.nilFunc]⟩
theorem k303 : rowOk Tryz.prog 303 r303 := ⟨by kernel_rfl, fun _ => by kernel_rfl⟩
def r305 : TRow := ⟨.fn, 1, 8, [Value.nilFunc]⟩
theorem k305 : rowOk Tryz.prog 305 r305 := ⟨by kernel_rfl, fun _ => by kernel_rfl⟩
def r306 : TRow := ⟨.fn, 1, 8, [Value.nilFunc]⟩
theorem k306 : rowOk Tryz.prog 306 r306 := ⟨by kernel_rfl, fun _ => by kernel_rfl⟩
def r307 : TRow := ⟨.fn, 1, 8, [Value.nilFunc]⟩
theorem k307 : rowOk Tryz.prog 307 r307 := ⟨by kernel_rfl, fun _ => by kernel_rfl⟩
def r308 : TRow := ⟨.fn, 1, 8, [Value.nilFunc]⟩
theorem k308 : rowOk Tryz.prog 308 r308 := ⟨by kernel_rfl, fun _ => by kernel_rfl⟩
def r309 : TRow := ⟨.fn, 1, 8, [Value.nilFunc]⟩
theorem k309 : rowOk Tryz.prog 309 r309 := ⟨by kernel_rfl, fun _ => by kernel_rfl⟩
def r311 : TRow := ⟨.fn, 1, 8, [Value.nilFunc]⟩
theorem k311 : rowOk Tryz.prog 311 r311 := ⟨by kernel_rfl, fun _ => by kernel_rfl⟩
def r313 : TRow := ⟨.fn, 1, 8, [Value.nilFunc]⟩
theorem k313 : rowOk Tryz.prog 313 r313 := ⟨by kernel_rfl, fun _ => by kernel_rfl⟩
def r314 : TRow := ⟨.ptr 318, 1, 8, [(Value.pointer none)]⟩
theorem k314 : rowOk Tryz.prog 314 r314 := ⟨by kernel_rfl, fun _ => by kernel_rfl⟩
def r315 : TRow := ⟨.st [(0, 177)], 1, 24, [(Value.slice none 0 0)]⟩
theorem k315 : rowOk Tryz.prog 315 r315 := ⟨by kernel_rfl, fun _ => by kernel_rfl⟩
def r316 : TRow := ⟨.st [(0, 177)], 1, 24, [(Value.slice none 0 0)]⟩
theorem k316 : rowOk Tryz.prog 316 r316 := ⟨by kernel_rfl, fun _ => by kernel_rfl⟩
def r317 : TRow := ⟨.st [(0, 316), (1, 24), (2, 3)], 3, 40, [(Value.slice none 0 0), (Value.int IntKind.i64 0), (Value.int IntKind.i64 0)]⟩
theorem k317 : rowOk Tryz.prog 317 r317 := ⟨by kernel_rfl, fun _ => by kernel_rfl⟩
def r318 : TRow := ⟨.st [(0, 316), (1, 24), (2, 3)], 3, 40, [(Value.slice none 0 0), (Value.int IntKind.i64 0), (Value.int IntKind.i64 0)]⟩
theorem k318 : rowOk Tryz.prog 318 r318 := ⟨by kernel_rfl, fun _ => by kernel_rfl⟩
def r319 : TRow := ⟨.fn, 1, 8, [Value.nilFunc]⟩
theorem k319 : rowOk Tryz.prog 319 r319 := ⟨by kernel_rfl, fun _ => by kernel_rfl⟩
def r320 : TRow := ⟨.fn, 1, 8, [Value.nilFunc]⟩
theorem k320 : rowOk Tryz.prog 320 r320 := ⟨by kernel_rfl, fun _ => by kernel_rfl⟩
def r321 : TRow := ⟨.ptr 273, 1, 8, [(Value.pointer none)]⟩
theorem k321 : rowOk Tryz.prog 321 r321 := ⟨by kernel_rfl, fun _ => by kernel_rfl⟩
def r322 : TRow := ⟨.fn, 1, 8, [Value.nilFunc]⟩
theorem k322 : rowOk Tryz.prog 322 r322 := ⟨by kernel_rfl, fun _ => by kernel_rfl⟩
def r323 : TRow := ⟨.fn, 1, 8, [Value.nilFunc]⟩
theorem k323 : rowOk Tryz.prog 323 r323 := ⟨by kernel_rfl, fun _ => by kernel_rfl⟩
def r324 : TRow := ⟨.fn, 1, 8, [Value.nilFunc]⟩
theorem k324 : rowOk Tryz.prog 324 r324 := ⟨by kernel_rfl, fun _ => by kernel_rfl⟩
def r325 : TRow := ⟨.fn, 1, 8, [Value.nilFunc]⟩
theorem k325 : rowOk Tryz.prog 325 r325 := ⟨by kernel_rfl, fun _ => by kernel_rfl⟩
def r326 : TRow := ⟨.sl 331, 1, 24, [(Value.slice none 0 0)]⟩
theorem k326 : rowOk Tryz.prog 326 r326 := ⟨by kernel_rfl, fun _ => by kernel_rfl⟩
def r327 : TRow := ⟨.sl 334, 1, 24, [(Value.slice none 0 0)]⟩
theorem k327 : rowOk Tryz.prog 327 r327 := ⟨by kernel_rfl, fun _ => by kernel_rfl⟩
def r328 : TRow := ⟨.st [(0, 326), (1, 327), (2, 3)], 3, 56, [(Value.slice none 0 0), (Value.slice none 0 0), (Value.int IntKind.i64 0)]⟩
theorem k328 : rowOk Tryz.prog 328 r328 := ⟨by kernel_rfl, fun _ => by kernel_rfl⟩
def r329 : TRow := ⟨.st [(0, 326), (1, 327), (2, 3)], 3, 56, [(Value.slice none 0 0), (Value.slice none 0 0), (Value.int IntKind.i64 0)]⟩
theorem k329 : rowOk Tryz.prog 329 r329 := ⟨by kernel_rfl, fun _ => by kernel_rfl⟩
def r330 : TRow := ⟨.st [(0, 22), (1, 22), (2, 22)], 3, 6, [(Value.int IntKind.u16 0), (Value.int IntKind.u16 0), (Value.int IntKind.u16 0)]⟩
theorem k330 : rowOk Tryz.prog 330 r330 := ⟨by kernel_rfl, fun _ => by kernel_rfl⟩
def r331 : TRow := ⟨.st [(0, 22), (1, 22), (2, 22)], 3, 6, [(Value.int IntKind.u16 0), (Value.int IntKind.u16 0), (Value.int IntKind.u16 0)]⟩
theorem k331 : rowOk Tryz.prog 331 r331 := ⟨by kernel_rfl, fun _ => by kernel_rfl⟩
def r332 : TRow := ⟨.fn, 1, 8, [Value.nilFunc]⟩
theorem k332 : rowOk Tryz.prog 332 r332 := ⟨by kernel_rfl, fun _ => by kernel_rfl⟩
def r333 : TRow := ⟨.st [(0, 244), (1, 244), (2, 244)], 3, 12, [(Value.int IntKind.u32 0), (Value.int IntKind.u32 0), (Value.int IntKind.u32 0)]⟩
theorem k333 : rowOk Tryz.prog 333 r333 := ⟨by kernel_rfl, fun _ => by kernel_rfl⟩
def r334 : TRow := ⟨.st [(0, 244), (1, 244), (2, 244)], 3, 12, [(Value.int IntKind.u32 0), (Value.int IntKind.u32 0), (Value.int IntKind.u32 0)]⟩
theorem k334 : rowOk Tryz.prog 334 r334 := ⟨by kernel_rfl, fun _ => by kernel_rfl⟩
def r335 : TRow := ⟨.fn, 1, 8, [Value.nilFunc]⟩
theorem k335 : rowOk Tryz.prog 335 r335 := ⟨by kernel_rfl, fun _ => by kernel_rfl⟩
def r336 : TRow := ⟨.st [(0, 5), (1, 5)], 2, 2, [(Value.int IntKind.u8 0), (Value.int IntKind.u8 0)]⟩
theorem k336 : rowOk Tryz.prog 336 r336 := ⟨by kernel_rfl, fun _ => by kernel_rfl⟩
def r337 : TRow := ⟨.st [(0, 5), (1, 5)], 2, 2, [(Value.int IntKind.u8 0), (Value.int IntKind.u8 0)]⟩
theorem k337 : rowOk Tryz.prog 337 r337 := ⟨by kernel_rfl, fun _ => by kernel_rfl⟩
def r338 : TRow := ⟨.arr 16 337, 32, 32, [(Value.int IntKind.u8 0), (Value.int IntKind.u8 0), (Value.int IntKind.u8 0), (Value.int IntKind.u8 0), (Value.int IntKind.u8 0), (Value.int IntKind.u8 0), (Value.int IntKind.u8 0), (Value.int IntKind.u8 0), (Value.int IntKind.u8 0), (Value.int IntKind.u8 0), (Value.int IntKind.u8 0), (Value.int IntKind.u8 0), (Value.int IntKind.u8 0), (Value.int IntKind.u8 0), (Value.int IntKind.u8 0), (Value.int IntKind.u8 0), (Value.int IntKind.u8 0), (Value.int IntKind.u8 0), (Value.int IntKind.u8 0), (Value.int IntKind.u8 0), (Value.int IntKind.u8 0), (Value.int IntKind.u8 0), (Value.int IntKind.u8 0), (Value.int IntKind.u8 0), (Value.int IntKind.u8 0), (Value.int IntKind.u8 0), (Value.int IntKind.u8 0), (Value.int IntKind.u8 0), (Value.int IntKind.u8 0), (Value.int IntKind.u8 0), (Value.int IntKind.u8 0), (Value.int IntKind.u8 0)]⟩
theorem k338 : rowOk Tryz.prog 338 r338 := ⟨by kernel_rfl, fun _ => by kernel_rfl⟩
def r339 : TRow := ⟨.fn, 1, 8, [Value.nilFunc]⟩
theorem k339 : rowOk Tryz.prog 339 r339 := ⟨by kernel_rfl, fun _ => by kernel_rfl⟩
def r340 : TRow := ⟨.ptr 222, 1, 8, [(Value.pointer none)]⟩
theorem k340 : rowOk Tryz.prog 340 r340 := ⟨by kernel_rfl, fun _ => by kernel_rfl⟩
def r341 : TRow := ⟨.sl 219, 1, 24, [(Value.slice none 0 0)]⟩
theorem k341 : rowOk Tryz.prog 341 r341 := ⟨by kernel_rfl, fun _ => by kernel_rfl⟩
def r342 : TRow := ⟨.fn, 1, 8, [Value.nilFunc]⟩
theorem k342 : rowOk Tryz.prog 342 r342 := ⟨by kernel_rfl, fun _ => by kernel_rfl⟩
def r344 : TRow := ⟨.fn, 1, 8, [Value.nilFunc]⟩
theorem k344 : rowOk Tryz.prog 344 r344 := ⟨by kernel_rfl, fun _ => by kernel_rfl⟩
def r345 : TRow := ⟨.fn, 1, 8, [Value.nilFunc]⟩
theorem k345 : rowOk Tryz.prog 345 r345 := ⟨by kernel_rfl, fun _ => by kernel_rfl⟩
def r346 : TRow := ⟨.fn, 1, 8, [Value.nilFunc]⟩
theorem k346 : rowOk Tryz.prog 346 r346 := ⟨by kernel_rfl, fun _ => by kernel_rfl⟩
def r348 : TRow := ⟨.fn, 1, 8, [Value.nilFunc]⟩
theorem k348 : rowOk Tryz.prog 348 r348 := ⟨by kernel_rfl, fun _ => by kernel_rfl⟩
def r349 : TRow := ⟨.fn, 1, 8, [Value.nilFunc]⟩
theorem k349 : rowOk Tryz.prog 349 r349 := ⟨by kernel_rfl, fun _ => by kernel_rfl⟩
def r350 : TRow := ⟨.fn, 1, 8, [Value.nilFunc]⟩
theorem k350 : rowOk Tryz.prog 350 r350 := ⟨by kernel_rfl, fun _ => by kernel_rfl⟩
def r351 : TRow := ⟨.fn, 1, 8, [Value.nilFunc]⟩
theorem k351 : rowOk Tryz.prog 351 r351 := ⟨by kernel_rfl, fun _ => by kernel_rfl⟩
def r352 : TRow := ⟨.fn, 1, 8, [Value.nilFunc]⟩
theorem k352 : rowOk Tryz.prog 352 r352 := ⟨by kernel_rfl, fun _ => by kernel_rfl⟩
def r353 : TRow := ⟨.ptr 331, 1, 8, [(Value.pointer none)]⟩
theorem k353 : rowOk Tryz.prog 353 r353 := ⟨by kernel_rfl, fun _ => by kernel_rfl⟩
def r354 : TRow := ⟨.ptr 334, 1, 8, [(Value.pointer none)]⟩
theorem k354 : rowOk Tryz.prog 354 r354 := ⟨by kernel_rfl, fun _ => by kernel_rfl⟩
def r356 : TRow := ⟨.fn, 1, 8, [Value.nilFunc]⟩
theorem k356 : rowOk Tryz.prog 356 r356 := ⟨by kernel_rfl, fun _ => by kernel_rfl⟩
def r358 : TRow := ⟨.fn, 1, 8, [Value.nilFunc]⟩
theorem k358 : rowOk Tryz.prog 358 r358 := ⟨by kernel_rfl, fun _ => by kernel_rfl⟩
def r359 : TRow := ⟨.fn, 1, 8, [Value.nilFunc]⟩
theorem k359 : rowOk Tryz.prog 359 r359 := ⟨by kernel_rfl, fun _ => by kernel_rfl⟩
def r360 : TRow := ⟨.fn, 1, 8, [Value.nilFunc]⟩
theorem k360 : rowOk Tryz.prog 360 r360 := ⟨by kernel_rfl, fun _ => by kernel_rfl⟩
def r361 : TRow := ⟨.fn, 1, 8, [Value.nilFunc]⟩
theorem k361 : rowOk Tryz.prog 361 r361 := ⟨by kernel_rfl, fun _ => by kernel_rfl⟩
def r362 : TRow := ⟨.fn, 1, 8, [Value.nilFunc]⟩
theorem k362 : rowOk Tryz.prog 362 r362 := ⟨by kernel_rfl, fun _ => by kernel_rfl⟩
def r363 : TRow := ⟨.fn, 1, 8, [Value.nilFunc]⟩
theorem k363 : rowOk Tryz.prog 363 r363 := ⟨by kernel_rfl, fun _ => by kernel_rfl⟩
def r364 : TRow := ⟨.fn, 1, 8, [Value.nilFunc]⟩
theorem k364 : rowOk Tryz.prog 364 r364 := ⟨by kernel_rfl, fun _ => by kernel_rfl⟩
def r365 : TRow := ⟨.fn, 1, 8, [Value.nilFunc]⟩
theorem k365 : rowOk Tryz.prog 365 r365 := ⟨by kernel_rfl, fun _ => by kernel_rfl⟩
def r366 : TRow := ⟨.fn, 1, 8, [Value.nilFunc]⟩
theorem k366 : rowOk Tryz.prog 366 r366 := ⟨by kernel_rfl, fun _ => by kernel_rfl⟩
def r367 : TRow := ⟨.fn, 1, 8, [Value.nilFunc]⟩
theorem k367 : rowOk Tryz.prog 367 r367 := ⟨by kernel_rfl, fun _ => by kernel_rfl⟩
def r368 : TRow := ⟨.ptr 316, 1, 8, [(Value.pointer none)]⟩
theorem k368 : rowOk Tryz.prog 368 r368 := ⟨by kernel_rfl, fun _ => by kernel_rfl⟩
def r370 : TRow := ⟨.fn, 1, 8, [Value.nilFunc]⟩
theorem k370 : rowOk Tryz.prog 370 r370 := ⟨by kernel_rfl, fun _ => by kernel_rfl⟩
def r371 : TRow := ⟨.fn, 1, 8, [Value.nilFunc]⟩
theorem k371 : rowOk Tryz.prog 371 r371 := ⟨by kernel_rfl, fun _ => by kernel_rfl⟩
def r372 : TRow := ⟨.fn, 1, 8, [Value.nilFunc]⟩
theorem k372 : rowOk Tryz.prog 372 r372 := ⟨by kernel_rfl, fun _ => by kernel_rfl⟩
def r373 : TRow := ⟨.fn, 1, 8, [Value.nilFunc]⟩
theorem k373 : rowOk Tryz.prog 373 r373 := ⟨by kernel_rfl, fun _ => by kernel_rfl⟩
def r374 : TRow := ⟨.fn, 1, 8, [Value.nilFunc]⟩
theorem k374 : rowOk Tryz.prog 374 r374 := ⟨by kernel_rfl, fun _ => by kernel_rfl⟩
def r375 : TRow := ⟨.fn, 1, 8, [Value.nilFunc]⟩
theorem k375 : rowOk Tryz.prog 375 r375 := ⟨by kernel_rfl, fun _ => by kernel_rfl⟩
def r376 : TRow := ⟨.st [(0, 17), (1, 17), (2, 17), (3, 9)], 4, 40, [(Value.pointer none), (Value.pointer none), (Value.pointer none), (Value.string { data := #[] })]⟩
theorem k376 : rowOk Tryz.prog 376 r376 := ⟨by kernel_rfl, fun _ => by kernel_rfl⟩
def r377 : TRow := ⟨.st [(0, 17), (1, 17), (2, 17), (3, 9)], 4, 40, [(Value.pointer none), (Value.pointer none), (Value.pointer none), (Value.string { data := #[] })]⟩
theorem k377 : rowOk Tryz.prog 377 r377 := ⟨by kernel_rfl, fun _ => by kernel_rfl⟩
def r378 : TRow := ⟨.arr 0 16, 0, 0, []⟩
theorem k378 : rowOk Tryz.prog 378 r378 := ⟨by kernel_rfl, fun h => absurd rfl h⟩
def r379 : TRow := ⟨.st [(0, 378)], 0, 0, []⟩
theorem k379 : rowOk Tryz.prog 379 r379 := ⟨by kernel_rfl, fun h => absurd rfl h⟩
def r380 : TRow := ⟨.st [(0, 378)], 0, 0, []⟩
theorem k380 : rowOk Tryz.prog 380 r380 := ⟨by kernel_rfl, fun h => absurd rfl h⟩
def r381 : TRow := ⟨.fn, 1, 8, [Value.nilFunc]⟩
theorem k381 : rowOk Tryz.prog 381 r381 := ⟨by kernel_rfl, fun _ => by kernel_rfl⟩
def r382 : TRow := ⟨.int IntKind.u8, 1, 1, [(Value.int IntKind.u8 0)]⟩
theorem k382 : rowOk Tryz.prog 382 r382 := ⟨by kernel_rfl, fun _ => by kernel_rfl⟩
def r383 : TRow := ⟨.int IntKind.u8, 1, 1, [(Value.int IntKind.u8 0)]⟩
theorem k383 : rowOk Tryz.prog 383 r383 := ⟨by kernel_rfl, fun _ => by kernel_rfl⟩
def r384 : TRow := ⟨.fn, 1, 8, [Value.nilFunc]⟩
theorem k384 : rowOk Tryz.prog 384 r384 := ⟨by kernel_rfl, fun _ => by kernel_rfl⟩
def r385 : TRow := ⟨.int IntKind.i32, 1, 4, [(Value.int IntKind.i32 0)]⟩
theorem k385 : rowOk Tryz.prog 385 r385 := ⟨by kernel_rfl, fun _ => by kernel_rfl⟩
def r386 : TRow := ⟨.int IntKind.i32, 1, 4, [(Value.int IntKind.i32 0)]⟩
theorem k386 : rowOk Tryz.prog 386 r386 := ⟨by kernel_rfl, fun _ => by kernel_rfl⟩
def r387 : TRow := ⟨.st [(0, 12), (1, 12), (2, 244), (3, 382), (4, 5), (5, 5), (6, 383), (7, 384), (8, 154), (9, 385), (10, 386)], 11, 48, [(Value.int IntKind.u64 0), (Value.int IntKind.u64 0), (Value.int IntKind.u32 0), (Value.int IntKind.u8 0), (Value.int IntKind.u8 0), (Value.int IntKind.u8 0), (Value.int IntKind.u8 0), Value.nilFunc, (Value.pointer none), (Value.int IntKind.i32 0), (Value.int IntKind.i32 0)]⟩
theorem k387 : rowOk Tryz.prog 387 r387 := ⟨by kernel_rfl, fun _ => by kernel_rfl⟩
def r388 : TRow := ⟨.st [(0, 12), (1, 12), (2, 244), (3, 382), (4, 5), (5, 5), (6, 383), (7, 384), (8, 154), (9, 385), (10, 386)], 11, 48, [(Value.int IntKind.u64 0), (Value.int IntKind.u64 0), (Value.int IntKind.u32 0), (Value.int IntKind.u8 0), (Value.int IntKind.u8 0), (Value.int IntKind.u8 0), (Value.int IntKind.u8 0), Value.nilFunc, (Value.pointer none), (Value.int IntKind.i32 0), (Value.int IntKind.i32 0)]⟩
theorem k388 : rowOk Tryz.prog 388 r388 := ⟨by kernel_rfl, fun _ => by kernel_rfl⟩
def r389 : TRow := ⟨.arr 3 9, 3, 48, [(Value.string { data := #[] }), (Value.string { data := #[] }), (Value.string { data := #[] })]⟩
theorem k389 : rowOk Tryz.prog 389 r389 := ⟨by kernel_rfl, fun _ => by kernel_rfl⟩
def r391 : TRow := ⟨.fn, 1, 8, [Value.nilFunc]⟩
theorem k391 : rowOk Tryz.prog 391 r391 := ⟨by kernel_rfl, fun _ => by kernel_rfl⟩
def r392 : TRow := ⟨.fn, 1, 8, [Value.nilFunc]⟩
theorem k392 : rowOk Tryz.prog 392 r392 := ⟨by kernel_rfl, fun _ => by kernel_rfl⟩
def r393 : TRow := ⟨.fn, 1, 8, [Value.nilFunc]⟩
theorem k393 : rowOk Tryz.prog 393 r393 := ⟨by kernel_rfl, fun _ => by kernel_rfl⟩
def r394 : TRow := ⟨.fn, 1, 8, [Value.nilFunc]⟩
theorem k394 : rowOk Tryz.prog 394 r394 := ⟨by kernel_rfl, fun _ => by kernel_rfl⟩
def r395 : TRow := ⟨.fn, 1, 8, [Value.nilFunc]⟩
theorem k395 : rowOk Tryz.prog 395 r395 := ⟨by kernel_rfl, fun _ => by kernel_rfl⟩
def r396 : TRow := ⟨.st [(0, 5), (1, 22)], 2, 4, [(Value.int IntKind.u8 0), (Value.int IntKind.u16 0)]⟩
theorem k396 : rowOk Tryz.prog 396 r396 := ⟨by kernel_rfl, fun _ => by kernel_rfl⟩
def r397 : TRow := ⟨.st [(0, 5), (1, 22)], 2, 4, [(Value.int IntKind.u8 0), (Value.int IntKind.u16 0)]⟩
theorem k397 : rowOk Tryz.prog 397 r397 := ⟨by kernel_rfl, fun _ => by kernel_rfl⟩
def r398 : TRow := ⟨.fn, 1, 8, [Value.nilFunc]⟩
theorem k398 : rowOk Tryz.prog 398 r398 := ⟨by kernel_rfl, fun _ => by kernel_rfl⟩
def r399 : TRow := ⟨.fn, 1, 8, [Value.nilFunc]⟩
theorem k399 : rowOk Tryz.prog 399 r399 := ⟨by kernel_rfl, fun _ => by kernel_rfl⟩
def r400 : TRow := ⟨.st [(0, 3), (1, 3), (2, 3), (3, 22)], 4, 32, [(Value.int IntKind.i64 0), (Value.int IntKind.i64 0), (Value.int IntKind.i64 0), (Value.int IntKind.u16 0)]⟩
theorem k400 : rowOk Tryz.prog 400 r400 := ⟨by kernel_rfl, fun _ => by kernel_rfl⟩
def r401 : TRow := ⟨.st [(0, 3), (1, 3), (2, 3), (3, 22)], 4, 32, [(Value.int IntKind.i64 0), (Value.int IntKind.i64 0), (Value.int IntKind.i64 0), (Value.int IntKind.u16 0)]⟩
theorem k401 : rowOk Tryz.prog 401 r401 := ⟨by kernel_rfl, fun _ => by kernel_rfl⟩
def r403 : TRow := ⟨.fn, 1, 8, [Value.nilFunc]⟩
theorem k403 : rowOk Tryz.prog 403 r403 := ⟨by kernel_rfl, fun _ => by kernel_rfl⟩
def r404 : TRow := ⟨.fn, 1, 8, [Value.nilFunc]⟩
theorem k404 : rowOk Tryz.prog 404 r404 := ⟨by kernel_rfl, fun _ => by kernel_rfl⟩
def r406 : TRow := ⟨.fn, 1, 8, [Value.nilFunc]⟩
theorem k406 : rowOk Tryz.prog 406 r406 := ⟨by kernel_rfl, fun _ => by kernel_rfl⟩
def r407 : TRow := ⟨.fn, 1, 8, [Value.nilFunc]⟩
theorem k407 : rowOk Tryz.prog 407 r407 := ⟨by kernel_rfl, fun _ => by kernel_rfl⟩
def r408 : TRow := ⟨.fn, 1, 8, [Value.nilFunc]⟩
theorem k408 : rowOk Tryz.prog 408 r408 := ⟨by kernel_rfl, fun _ => by kernel_rfl⟩
def r409 : TRow := ⟨.fn, 1, 8, [Value.nilFunc]⟩
theorem k409 : rowOk Tryz.prog 409 r409 := ⟨by kernel_rfl, fun _ => by kernel_rfl⟩
def r410 : TRow := ⟨.st [(0, 104), (1, 3)], 2, 32, [(Value.slice none 0 0), (Value.int IntKind.i64 0)]⟩
theorem k410 : rowOk Tryz.prog 410 r410 := ⟨by kernel_rfl, fun _ => by kernel_rfl⟩
def r411 : TRow := ⟨.st [(0, 104), (1, 3)], 2, 32, [(Value.slice none 0 0), (Value.int IntKind.i64 0)]⟩
theorem k411 : rowOk Tryz.prog 411 r411 := ⟨by kernel_rfl, fun _ => by kernel_rfl⟩
def r412 : TRow := ⟨.st [(0, 411)], 2, 32, [(Value.slice none 0 0), (Value.int IntKind.i64 0)]⟩
theorem k412 : rowOk Tryz.prog 412 r412 := ⟨by kernel_rfl, fun _ => by kernel_rfl⟩
def r413 : TRow := ⟨.st [(0, 411)], 2, 32, [(Value.slice none 0 0), (Value.int IntKind.i64 0)]⟩
theorem k413 : rowOk Tryz.prog 413 r413 := ⟨by kernel_rfl, fun _ => by kernel_rfl⟩
def r414 : TRow := ⟨.fn, 1, 8, [Value.nilFunc]⟩
theorem k414 : rowOk Tryz.prog 414 r414 := ⟨by kernel_rfl, fun _ => by kernel_rfl⟩
def r415 : TRow := ⟨.arr 3 413, 6, 96, [(Value.slice none 0 0), (Value.int IntKind.i64 0), (Value.slice none 0 0), (Value.int IntKind.i64 0), (Value.slice none 0 0), (Value.int IntKind.i64 0)]⟩
theorem k415 : rowOk Tryz.prog 415 r415 := ⟨by kernel_rfl, fun _ => by kernel_rfl⟩
def r416 : TRow := ⟨.arr 2 3, 2, 16, [(Value.int IntKind.i64 0), (Value.int IntKind.i64 0)]⟩
theorem k416 : rowOk Tryz.prog 416 r416 := ⟨by kernel_rfl, fun _ => by kernel_rfl⟩
def r417 : TRow := ⟨.fn, 1, 8, [Value.nilFunc]⟩
theorem k417 : rowOk Tryz.prog 417 r417 := ⟨by kernel_rfl, fun _ => by kernel_rfl⟩
def r418 : TRow := ⟨.st [(0, 89), (1, 3)], 2, 32, [(Value.slice none 0 0), (Value.int IntKind.i64 0)]⟩
theorem k418 : rowOk Tryz.prog 418 r418 := ⟨by kernel_rfl, fun _ => by kernel_rfl⟩
def r419 : TRow := ⟨.st [(0, 89), (1, 3)], 2, 32, [(Value.slice none 0 0), (Value.int IntKind.i64 0)]⟩
theorem k419 : rowOk Tryz.prog 419 r419 := ⟨by kernel_rfl, fun _ => by kernel_rfl⟩
def r420 : TRow := ⟨.fn, 1, 8, [Value.nilFunc]⟩
theorem k420 : rowOk Tryz.prog 420 r420 := ⟨by kernel_rfl, fun _ => by kernel_rfl⟩
def r421 : TRow := ⟨.fn, 1, 8, [Value.nilFunc]⟩
theorem k421 : rowOk Tryz.prog 421 r421 := ⟨by kernel_rfl, fun _ => by kernel_rfl⟩
def r422 : TRow := ⟨.int IntKind.i8, 1, 1, [(Value.int IntKind.i8 0)]⟩
theorem k422 : rowOk Tryz.prog 422 r422 := ⟨by kernel_rfl, fun _ => by kernel_rfl⟩
def r423 : TRow := ⟨.fn, 1, 8, [Value.nilFunc]⟩
theorem k423 : rowOk Tryz.prog 423 r423 := ⟨by kernel_rfl, fun _ => by kernel_rfl⟩
def r424 : TRow := ⟨.fn, 1, 8, [Value.nilFunc]⟩
theorem k424 : rowOk Tryz.prog 424 r424 := ⟨by kernel_rfl, fun _ => by kernel_rfl⟩
def r425 : TRow := ⟨.fn, 1, 8, [Value.nilFunc]⟩
theorem k425 : rowOk Tryz.prog 425 r425 := ⟨by kernel_rfl, fun _ => by kernel_rfl⟩
def r426 : TRow := ⟨.fn, 1, 8, [Value.nilFunc]⟩
theorem k426 : rowOk Tryz.prog 426 r426 := ⟨by kernel_rfl, fun _ => by kernel_rfl⟩
def types : Tree := (.node 212 (.node 107 (.node 52 (.node 26 (.node 13 (.node 7 (.node 4 (.node 2 (.leaf 1 r1) (.node 3 (.leaf 2 r2) (.leaf 3 r3))) (.node 5 (.leaf 4 r4) (.node 6 (.leaf 5 r5) (.leaf 6 r6)))) (.node 10 (.node 8 (.leaf 7 r7) (.node 9 (.leaf 8 r8) (.leaf 9 r9))) (.node 11 (.leaf 10 r10) (.node 12 (.leaf 11 r11) (.leaf 12 r12))))) (.node 19 (.node 16 (.node 14 (.leaf 13 r13) (.node 15 (.leaf 14 r14) (.leaf 15 r15))) (.node 17 (.leaf 16 r16) (.node 18 (.leaf 17 r17) (.leaf 18 r18)))) (.node 22 (.node 20 (.leaf 19 r19) (.node 21 (.leaf 20 r20) (.leaf 21 r21))) (.node 23 (.leaf 22 r22) (.node 24 (.leaf 23 r23) (.leaf 24 r24)))))) (.node 38 (.node 32 (.node 29 (.node 27 (.leaf 26 r26) (.node 28 (.leaf 27 r27) (.leaf 28 r28))) (.node 30 (.leaf 29 r29) (.node 31 (.leaf 30 r30) (.leaf 31 r31)))) (.node 35 (.node 33 (.leaf 32 r32) (.node 34 (.leaf 33 r33) (.leaf 34 r34))) (.node 36 (.leaf 35 r35) (.node 37 (.leaf 36 r36) (.leaf 37 r37))))) (.node 45 (.node 42 (.node 40 (.leaf 38 r38) (.node 41 (.leaf 40 r40) (.leaf 41 r41))) (.node 43 (.leaf 42 r42) (.node 44 (.leaf 43 r43) (.leaf 44 r44)))) (.node 48 (.node 46 (.leaf 45 r45) (.node 47 (.leaf 46 r46) (.leaf 47 r47))) (.node 50 (.node 49 (.leaf 48 r48) (.leaf 49 r49)) (.node 51 (.leaf 50 r50) (.leaf 51 r51))))))) (.node 79 (.node 64 (.node 58 (.node 55 (.node 53 (.leaf 52 r52) (.node 54 (.leaf 53 r53) (.leaf 54 r54))) (.node 56 (.leaf 55 r55) (.node 57 (.leaf 56 r56) (.leaf 57 r57)))) (.node 61 (.node 59 (.leaf 58 r58) (.node 60 (.leaf 59 r59) (.leaf 60 r60))) (.node 62 (.leaf 61 r61) (.node 63 (.leaf 62 r62) (.leaf 63 r63))))) (.node 70 (.node 67 (.node 65 (.leaf 64 r64) (.node 66 (.leaf 65 r65) (.leaf 66 r66))) (.node 68 (.leaf 67 r67) (.node 69 (.leaf 68 r68) (.leaf 69 r69)))) (.node 75 (.node 72 (.leaf 70 r70) (.node 74 (.leaf 72 r72) (.leaf 74 r74))) (.node 76 (.leaf 75 r75) (.node 77 (.leaf 76 r76) (.leaf 77 r77)))))) (.node 91 (.node 85 (.node 82 (.node 80 (.leaf 79 r79) (.node 81 (.leaf 80 r80) (.leaf 81 r81))) (.node 83 (.leaf 82 r82) (.node 84 (.leaf 83 r83) (.leaf 84 r84)))) (.node 88 (.node 86 (.leaf 85 r85) (.node 87 (.leaf 86 r86) (.leaf 87 r87))) (.node 89 (.leaf 88 r88) (.node 90 (.leaf 89 r89) (.leaf 90 r90))))) (.node 99 (.node 95 (.node 93 (.leaf 91 r91) (.node 94 (.leaf 93 r93) (.leaf 94 r94))) (.node 97 (.leaf 95 r95) (.node 98 (.leaf 97 r97) (.leaf 98 r98)))) (.node 103 (.node 100 (.leaf 99 r99) (.node 102 (.leaf 100 r100) (.leaf 102 r102))) (.node 105 (.node 104 (.leaf 103 r103) (.leaf 104 r104)) (.node 106 (.leaf 105 r105) (.leaf 106 r106)))))))) (.node 159 (.node 133 (.node 119 (.node 113 (.node 110 (.node 108 (.leaf 107 r107) (.node 109 (.leaf 108 r108) (.leaf 109 r109))) (.node 111 (.leaf 110 r110) (.node 112 (.leaf 111 r111) (.leaf 112 r112)))) (.node 116 (.node 114 (.leaf 113 r113) (.node 115 (.leaf 114 r114) (.leaf 115 r115))) (.node 117 (.leaf 116 r116) (.node 118 (.leaf 117 r117) (.leaf 118 r118))))) (.node 126 (.node 123 (.node 120 (.leaf 119 r119) (.node 121 (.leaf 120 r120) (.leaf 121 r121))) (.node 124 (.leaf 123 r123) (.node 125 (.leaf 124 r124) (.leaf 125 r125)))) (.node 129 (.node 127 (.leaf 126 r126) (.node 128 (.leaf 127 r127) (.leaf 128 r128))) (.node 130 (.leaf 129 r129) (.node 132 (.leaf 130 r130) (.leaf 132 r132)))))) (.node 146 (.node 139 (.node 136 (.node 134 (.leaf 133 r133) (.node 135 (.leaf 134 r134) (.leaf 135 r135))) (.node 137 (.leaf 136 r136) (.node 138 (.leaf 137 r137) (.leaf 138 r138)))) (.node 142 (.node 140 (.leaf 139 r139) (.node 141 (.leaf 140 r140) (.leaf 141 r141))) (.node 144 (.leaf 142 r142) (.node 145 (.leaf 144 r144) (.leaf 145 r145))))) (.node 152 (.node 149 (.node 147 (.leaf 146 r146) (.node 148 (.leaf 147 r147) (.leaf 148 r148))) (.node 150 (.leaf 149 r149) (.node 151 (.leaf 150 r150) (.leaf 151 r151)))) (.node 155 (.node 153 (.leaf 152 r152) (.node 154 (.leaf 153 r153) (.leaf 154 r154))) (.node 157 (.node 156 (.leaf 155 r155) (.leaf 156 r156)) (.node 158 (.leaf 157 r157) (.leaf 158 r158))))))) (.node 185 (.node 172 (.node 165 (.node 162 (.node 160 (.leaf 159 r159) (.node 161 (.leaf 160 r160) (.leaf 161 r161))) (.node 163 (.leaf 162 r162) (.node 164 (.leaf 163 r163) (.leaf 164 r164)))) (.node 169 (.node 166 (.leaf 165 r165) (.node 168 (.leaf 166 r166) (.leaf 168 r168))) (.node 170 (.leaf 169 r169) (.node 171 (.leaf 170 r170) (.leaf 171 r171))))) (.node 179 (.node 175 (.node 173 (.leaf 172 r172) (.node 174 (.leaf 173 r173) (.leaf 174 r174))) (.node 176 (.leaf 175 r175) (.node 177 (.leaf 176 r176) (.leaf 177 r177)))) (.node 182 (.node 180 (.leaf 179 r179) (.node 181 (.leaf 180 r180) (.leaf 181 r181))) (.node 183 (.leaf 182 r182) (.node 184 (.leaf 183 r183) (.leaf 184 r184)))))) (.node 198 (.node 192 (.node 189 (.node 186 (.leaf 185 r185) (.node 188 (.leaf 186 r186) (.leaf 188 r188))) (.node 190 (.leaf 189 r189) (.node 191 (.leaf 190 r190) (.leaf 191 r191)))) (.node 195 (.node 193 (.leaf 192 r192) (.node 194 (.leaf 193 r193) (.leaf 194 r194))) (.node 196 (.leaf 195 r195) (.node 197 (.leaf 196 r196) (.leaf 197 r197))))) (.node 204 (.node 201 (.node 199 (.leaf 198 r198) (.node 200 (.leaf 199 r199) (.leaf 200 r200))) (.node 202 (.leaf 201 r201) (.node 203 (.leaf 202 r202) (.leaf 203 r203)))) (.node 207 (.node 205 (.leaf 204 r204) (.node 206 (.leaf 205 r205) (.leaf 206 r206))) (.node 210 (.node 208 (.leaf 207 r207) (.leaf 208 r208)) (.node 211 (.leaf 210 r210) (.leaf 211 r211))))))))) (.node 321 (.node 266 (.node 239 (.node 224 (.node 218 (.node 215 (.node 213 (.leaf 212 r212) (.node 214 (.leaf 213 r213) (.leaf 214 r214))) (.node 216 (.leaf 215 r215) (.node 217 (.leaf 216 r216) (.leaf 217 r217)))) (.node 221 (.node 219 (.leaf 218 r218) (.node 220 (.leaf 219 r219) (.leaf 220 r220))) (.node 222 (.leaf 221 r221) (.node 223 (.leaf 222 r222) (.leaf 223 r223))))) (.node 231 (.node 227 (.node 225 (.leaf 224 r224) (.node 226 (.leaf 225 r225) (.leaf 226 r226))) (.node 228 (.leaf 227 r227) (.node 230 (.leaf 228 r228) (.leaf 230 r230)))) (.node 235 (.node 232 (.leaf 231 r231) (.node 234 (.leaf 232 r232) (.leaf 234 r234))) (.node 236 (.leaf 235 r235) (.node 238 (.leaf 236 r236) (.leaf 238 r238)))))) (.node 252 (.node 246 (.node 243 (.node 240 (.leaf 239 r239) (.node 242 (.leaf 240 r240) (.leaf 242 r242))) (.node 244 (.leaf 243 r243) (.node 245 (.leaf 244 r244) (.leaf 245 r245)))) (.node 249 (.node 247 (.leaf 246 r246) (.node 248 (.leaf 247 r247) (.leaf 248 r248))) (.node 250 (.leaf 249 r249) (.node 251 (.leaf 250 r250) (.leaf 251 r251))))) (.node 259 (.node 256 (.node 253 (.leaf 252 r252) (.node 254 (.leaf 253 r253) (.leaf 254 r254))) (.node 257 (.leaf 256 r256) (.node 258 (.leaf 257 r257) (.leaf 258 r258)))) (.node 262 (.node 260 (.leaf 259 r259) (.node 261 (.leaf 260 r260) (.leaf 261 r261))) (.node 264 (.node 263 (.leaf 262 r262) (.leaf 263 r263)) (.node 265 (.leaf 264 r264) (.leaf 265 r265))))))) (.node 292 (.node 280 (.node 274 (.node 270 (.node 267 (.leaf 266 r266) (.node 268 (.leaf 267 r267) (.leaf 268 r268))) (.node 272 (.leaf 270 r270) (.node 273 (.leaf 272 r272) (.leaf 273 r273)))) (.node 277 (.node 275 (.leaf 274 r274) (.node 276 (.leaf 275 r275) (.leaf 276 r276))) (.node 278 (.leaf 277 r277) (.node 279 (.leaf 278 r278) (.leaf 279 r279))))) (.node 286 (.node 283 (.node 281 (.leaf 280 r280) (.node 282 (.leaf 281 r281) (.leaf 282 r282))) (.node 284 (.leaf 283 r283) (.node 285 (.leaf 284 r284) (.leaf 285 r285)))) (.node 289 (.node 287 (.leaf 286 r286) (.node 288 (.leaf 287 r287) (.leaf 288 r288))) (.node 290 (.leaf 289 r289) (.node 291 (.leaf 290 r290) (.leaf 291 r291)))))) (.node 306 (.node 298 (.node 295 (.node 293 (.leaf 292 r292) (.node 294 (.leaf 293 r293) (.leaf 294 r294))) (.node 296 (.leaf 295 r295) (.node 297 (.leaf 296 r296) (.leaf 297 r297)))) (.node 302 (.node 300 (.leaf 298 r298) (.node 301 (.leaf 300 r300) (.leaf 301 r301))) (.node 303 (.leaf 302 r302) (.node 305 (.leaf 303 r303) (.leaf 305 r305))))) (.node 314 (.node 309 (.node 307 (.leaf 306 r306) (.node 308 (.leaf 307 r307) (.leaf 308 r308))) (.node 311 (.leaf 309 r309) (.node 313 (.leaf 311 r311) (.leaf 313 r313)))) (.node 317 (.node 315 (.leaf 314 r314) (.node 316 (.leaf 315 r315) (.leaf 316 r316))) (.node 319 (.node 318 (.leaf 317 r317) (.leaf 318 r318)) (.node 320 (.leaf 319 r319) (.leaf 320 r320)))))))) (.node 375 (.node 346 (.node 333 (.node 327 (.node 324 (.node 322 (.leaf 321 r321) (.node 323 (.leaf 322 r322) (.leaf 323 r323))) (.node 325 (.leaf 324 r324) (.node 326 (.leaf 325 r325) (.leaf 326 r326)))) (.node 330 (.node 328 (.leaf 327 r327) (.node 329 (.leaf 328 r328) (.leaf 329 r329))) (.node 331 (.leaf 330 r330) (.node 332 (.leaf 331 r331) (.leaf 332 r332))))) (.node 339 (.node 336 (.node 334 (.leaf 333 r333) (.node 335 (.leaf 334 r334) (.leaf 335 r335))) (.node 337 (.leaf 336 r336) (.node 338 (.leaf 337 r337) (.leaf 338 r338)))) (.node 342 (.node 340 (.leaf 339 r339) (.node 341 (.leaf 340 r340) (.leaf 341 r341))) (.node 344 (.leaf 342 r342) (.node 345 (.leaf 344 r344) (.leaf 345 r345)))))) (.node 361 (.node 353 (.node 350 (.node 348 (.leaf 346 r346) (.node 349 (.leaf 348 r348) (.leaf 349 r349))) (.node 351 (.leaf 350 r350) (.node 352 (.leaf 351 r351) (.leaf 352 r352)))) (.node 358 (.node 354 (.leaf 353 r353) (.node 356 (.leaf 354 r354) (.leaf 356 r356))) (.node 359 (.leaf 358 r358) (.node 360 (.leaf 359 r359) (.leaf 360 r360))))) (.node 367 (.node 364 (.node 362 (.leaf 361 r361) (.node 363 (.leaf 362 r362) (.leaf 363 r363))) (.node 365 (.leaf 364 r364) (.node 366 (.leaf 365 r365) (.leaf 366 r366)))) (.node 371 (.node 368 (.leaf 367 r367) (.node 370 (.leaf 368 r368) (.leaf 370 r370))) (.node 373 (.node 372 (.leaf 371 r371) (.leaf 372 r372)) (.node 374 (.leaf 373 r373) (.leaf 374 r374))))))) (.node 400 (.node 387 (.node 381 (.node 378 (.node 376 (.leaf 375 r375) (.node 377 (.leaf 376 r376) (.leaf 377 r377))) (.node 379 (.leaf 378 r378) (.node 380 (.leaf 379 r379) (.leaf 380 r380)))) (.node 384 (.node 382 (.leaf 381 r381) (.node 383 (.leaf 382 r382) (.leaf 383 r383))) (.node 385 (.leaf 384 r384) (.node 386 (.leaf 385 r385) (.leaf 386 r386))))) (.node 394 (.node 391 (.node 388 (.leaf 387 r387) (.node 389 (.leaf 388 r388) (.leaf 389 r389))) (.node 392 (.leaf 391 r391) (.node 393 (.leaf 392 r392) (.leaf 393 r393)))) (.node 397 (.node 395 (.leaf 394 r394) (.node 396 (.leaf 395 r395) (.leaf 396 r396))) (.node 398 (.leaf 397 r397) (.node 399 (.leaf 398 r398) (.leaf 399 r399)))))) (.node 414 (.node 408 (.node 404 (.node 401 (.leaf 400 r400) (.node 403 (.leaf 401 r401) (.leaf 403 r403))) (.node 406 (.leaf 404 r404) (.node 407 (.leaf 406 r406) (.leaf 407 r407)))) (.node 411 (.node 409 (.leaf 408 r408) (.node 410 (.leaf 409 r409) (.leaf 410 r410))) (.node 412 (.leaf 411 r411) (.node 413 (.leaf 412 r412) (.leaf 413 r413))))) (.node 420 (.node 417 (.node 415 (.leaf 414 r414) (.node 416 (.leaf 415 r415) (.leaf 416 r416))) (.node 418 (.leaf 417 r417) (.node 419 (.leaf 418 r418) (.leaf 419 r419)))) (.node 423 (.node 421 (.leaf 420 r420) (.node 422 (.leaf 421 r421) (.leaf 422 r422))) (.node 425 (.node 424 (.leaf 423 r423) (.leaf 424 r424)) (.node 426 (.leaf 425 r425) (.leaf 426 r426))))))))))
theorem types_ok : types.Ok Tryz.prog := ⟨⟨⟨⟨⟨⟨⟨⟨k1, ⟨k2, k3⟩⟩, ⟨k4, ⟨k5, k6⟩⟩⟩, ⟨⟨k7, ⟨k8, k9⟩⟩, ⟨k10, ⟨k11, k12⟩⟩⟩⟩, ⟨⟨⟨k13, ⟨k14, k15⟩⟩, ⟨k16, ⟨k17, k18⟩⟩⟩, ⟨⟨k19, ⟨k20, k21⟩⟩, ⟨k22, ⟨k23, k24⟩⟩⟩⟩⟩, ⟨⟨⟨⟨k26, ⟨k27, k28⟩⟩, ⟨k29, ⟨k30, k31⟩⟩⟩, ⟨⟨k32, ⟨k33, k34⟩⟩, ⟨k35, ⟨k36, k37⟩⟩⟩⟩, ⟨⟨⟨k38, ⟨k40, k41⟩⟩, ⟨k42, ⟨k43, k44⟩⟩⟩, ⟨⟨k45, ⟨k46, k47⟩⟩, ⟨⟨k48, k49⟩, ⟨k50, k51⟩⟩⟩⟩⟩⟩, ⟨⟨⟨⟨⟨k52, ⟨k53, k54⟩⟩, ⟨k55, ⟨k56, k57⟩⟩⟩, ⟨⟨k58, ⟨k59, k60⟩⟩, ⟨k61, ⟨k62, k63⟩⟩⟩⟩, ⟨⟨⟨k64, ⟨k65, k66⟩⟩, ⟨k67, ⟨k68, k69⟩⟩⟩, ⟨⟨k70, ⟨k72, k74⟩⟩, ⟨k75, ⟨k76, k77⟩⟩⟩⟩⟩, ⟨⟨⟨⟨k79, ⟨k80, k81⟩⟩, ⟨k82, ⟨k83, k84⟩⟩⟩, ⟨⟨k85, ⟨k86, k87⟩⟩, ⟨k88, ⟨k89, k90⟩⟩⟩⟩, ⟨⟨⟨k91, ⟨k93, k94⟩⟩, ⟨k95, ⟨k97, k98⟩⟩⟩, ⟨⟨k99, ⟨k100, k102⟩⟩, ⟨⟨k103, k104⟩, ⟨k105, k106⟩⟩⟩⟩⟩⟩⟩, ⟨⟨⟨⟨⟨⟨k107, ⟨k108, k109⟩⟩, ⟨k110, ⟨k111, k112⟩⟩⟩, ⟨⟨k113, ⟨k114, k115⟩⟩, ⟨k116, ⟨k117, k118⟩⟩⟩⟩, ⟨⟨⟨k119, ⟨k120, k121⟩⟩, ⟨k123, ⟨k124, k125⟩⟩⟩, ⟨⟨k126, ⟨k127, k128⟩⟩, ⟨k129, ⟨k130, k132⟩⟩⟩⟩⟩, ⟨⟨⟨⟨k133, ⟨k134, k135⟩⟩, ⟨k136, ⟨k137, k138⟩⟩⟩, ⟨⟨k139, ⟨k140, k141⟩⟩, ⟨k142, ⟨k144, k145⟩⟩⟩⟩, ⟨⟨⟨k146, ⟨k147, k148⟩⟩, ⟨k149, ⟨k150, k151⟩⟩⟩, ⟨⟨k152, ⟨k153, k154⟩⟩, ⟨⟨k155, k156⟩, ⟨k157, k158⟩⟩⟩⟩⟩⟩, ⟨⟨⟨⟨⟨k159, ⟨k160, k161⟩⟩, ⟨k162, ⟨k163, k164⟩⟩⟩, ⟨⟨k165, ⟨k166, k168⟩⟩, ⟨k169, ⟨k170, k171⟩⟩⟩⟩, ⟨⟨⟨k172, ⟨k173, k174⟩⟩, ⟨k175, ⟨k176, k177⟩⟩⟩, ⟨⟨k179, ⟨k180, k181⟩⟩, ⟨k182, ⟨k183, k184⟩⟩⟩⟩⟩, ⟨⟨⟨⟨k185, ⟨k186, k188⟩⟩, ⟨k189, ⟨k190, k191⟩⟩⟩, ⟨⟨k192, ⟨k193, k194⟩⟩, ⟨k195, ⟨k196, k197⟩⟩⟩⟩, ⟨⟨⟨k198, ⟨k199, k200⟩⟩, ⟨k201, ⟨k202, k203⟩⟩⟩, ⟨⟨k204, ⟨k205, k206⟩⟩, ⟨⟨k207, k208⟩, ⟨k210, k211⟩⟩⟩⟩⟩⟩⟩⟩, ⟨⟨⟨⟨⟨⟨⟨k212, ⟨k213, k214⟩⟩, ⟨k215, ⟨k216, k217⟩⟩⟩, ⟨⟨k218, ⟨k219, k220⟩⟩, ⟨k221, ⟨k222, k223⟩⟩⟩⟩, ⟨⟨⟨k224, ⟨k225, k226⟩⟩, ⟨k227, ⟨k228, k230⟩⟩⟩, ⟨⟨k231, ⟨k232, k234⟩⟩, ⟨k235, ⟨k236, k238⟩⟩⟩⟩⟩, ⟨⟨⟨⟨k239, ⟨k240, k242⟩⟩, ⟨k243, ⟨k244, k245⟩⟩⟩, ⟨⟨k246, ⟨k247, k248⟩⟩, ⟨k249, ⟨k250, k251⟩⟩⟩⟩, ⟨⟨⟨k252, ⟨k253, k254⟩⟩, ⟨k256, ⟨k257, k258⟩⟩⟩, ⟨⟨k259, ⟨k260, k261⟩⟩, ⟨⟨k262, k263⟩, ⟨k264, k265⟩⟩⟩⟩⟩⟩, ⟨⟨⟨⟨⟨k266, ⟨k267, k268⟩⟩, ⟨k270, ⟨k272, k273⟩⟩⟩, ⟨⟨k274, ⟨k275, k276⟩⟩, ⟨k277, ⟨k278, k279⟩⟩⟩⟩, ⟨⟨⟨k280, ⟨k281, k282⟩⟩, ⟨k283, ⟨k284, k285⟩⟩⟩, ⟨⟨k286, ⟨k287, k288⟩⟩, ⟨k289, ⟨k290, k291⟩⟩⟩⟩⟩, ⟨⟨⟨⟨k292, ⟨k293, k294⟩⟩, ⟨k295, ⟨k296, k297⟩⟩⟩, ⟨⟨k298, ⟨k300, k301⟩⟩, ⟨k302, ⟨k303, k305⟩⟩⟩⟩, ⟨⟨⟨k306, ⟨k307, k308⟩⟩, ⟨k309, ⟨k311, k313⟩⟩⟩, ⟨⟨k314, ⟨k315, k316⟩⟩, ⟨⟨k317, k318⟩, ⟨k319, k320⟩⟩⟩⟩⟩⟩⟩, ⟨⟨⟨⟨⟨⟨k321, ⟨k322, k323⟩⟩, ⟨k324, ⟨k325, k326⟩⟩⟩, ⟨⟨k327, ⟨k328, k329⟩⟩, ⟨k330, ⟨k331, k332⟩⟩⟩⟩, ⟨⟨⟨k333, ⟨k334, k335⟩⟩, ⟨k336, ⟨k337, k338⟩⟩⟩, ⟨⟨k339, ⟨k340, k341⟩⟩, ⟨k342, ⟨k344, k345⟩⟩⟩⟩⟩, ⟨⟨⟨⟨k346, ⟨k348, k349⟩⟩, ⟨k350, ⟨k351, k352⟩⟩⟩, ⟨⟨k353, ⟨k354, k356⟩⟩, ⟨k358, ⟨k359, k360⟩⟩⟩⟩, ⟨⟨⟨k361, ⟨k362, k363⟩⟩, ⟨k364, ⟨k365, k366⟩⟩⟩, ⟨⟨k367, ⟨k368, k370⟩⟩, ⟨⟨k371, k372⟩, ⟨k373, k374⟩⟩⟩⟩⟩⟩, ⟨⟨⟨⟨⟨k375, ⟨k376, k377⟩⟩, ⟨k378, ⟨k379, k380⟩⟩⟩, ⟨⟨k381, ⟨k382, k383⟩⟩, ⟨k384, ⟨k385, k386⟩⟩⟩⟩, ⟨⟨⟨k387, ⟨k388, k389⟩⟩, ⟨k391, ⟨k392, k393⟩⟩⟩, ⟨⟨k394, ⟨k395, k396⟩⟩, ⟨k397, ⟨k398, k399⟩⟩⟩⟩⟩, ⟨⟨⟨⟨k400, ⟨k401, k403⟩⟩, ⟨k404, ⟨k406, k407⟩⟩⟩, ⟨⟨k408, ⟨k409, k410⟩⟩, ⟨k411, ⟨k412, k413⟩⟩⟩⟩, ⟨⟨⟨k414, ⟨k415, k416⟩⟩, ⟨k417, ⟨k418, k419⟩⟩⟩, ⟨⟨k420, ⟨k421, k422⟩⟩, ⟨⟨k423, k424⟩, ⟨k425, k426⟩⟩⟩⟩⟩⟩⟩⟩⟩
end Go.Proofs.QQ
end
