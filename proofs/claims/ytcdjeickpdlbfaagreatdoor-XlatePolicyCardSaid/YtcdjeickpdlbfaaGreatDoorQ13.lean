/- A part of the proof that XlatePolicy returns true at every argument: the reader machine and this translation under it. Conditions: those that each theorem bears. -/
import Derived.Test.YtcdjeickpdlbfaaGreatDoorQ12
import Derived.ScopeJumps
section
set_option linter.unusedVariables false
set_option linter.unusedSimpArgs false
namespace Go.Proofs.QQ
open Go

variable {P : Program} {T : Tab} {σ : St} {K K' : AV → St → Prop}

theorem valA_imp {t : TypeId} {cells : List AV} {Kv Kv' : AV → Prop} (hk : ∀ v, Kv v → Kv' v) : valA T t cells Kv → valA T t cells Kv' := fun h => val_mono h hk
theorem srcA_imp {esz : Nat} {v : AV} {Kx Kx' : Nat → List AV → Prop} (hk : ∀ n xs, Kx n xs → Kx' n xs) : srcA esz v σ Kx → srcA esz v σ Kx' := fun h => src_mono h hk
theorem wIdx_imp {ix : AV} {len : Nat} {Kn Kn' : Nat → Prop} (hk : ∀ i, Kn i → Kn' i) : wIdx ix len Kn → wIdx ix len Kn' := fun h => by
  obtain ⟨i, h1, h2⟩ := idx_split h
  exact h2 _ (hk _ h1)
theorem wBnd_imp {b : Option AV} {d : Nat} {Kn Kn' : Nat → Prop} (hk : ∀ i, Kn i → Kn' i) : wBnd b d Kn → wBnd b d Kn' := fun h => by
  obtain ⟨i, h1, h2⟩ := bnd_split h
  exact h2 _ (hk _ h1)

section
variable (hk : ∀ v σ, K v σ → K' v σ)
include hk

theorem wRow_imp {mt full : Bool} {el : Option TypeId} {len esz : Nat} {cells : List AV} : wRow mt full el len esz cells σ K → wRow mt full el len esz cells σ K' := by
  unfold wRow
  repeat' (first | exact hk _ _ | exact id | refine And.imp_right ?_ | refine Exists.imp fun _ => ?_ | refine Or.imp ?_ ?_ | split)

theorem wFound_imp {et : TypeId} {c : Bool} {r : Option (Nat × AV)} : wFound T et c r σ K → wFound T et c r σ K' := by
  unfold wFound
  split
  · exact hk _ _
  · exact And.imp_right (valA_imp fun _ => hk _ _)

theorem wLoad_imp {t : TypeId} {x : AV} : wLoad T t x σ K → wLoad T t x σ K' := by
  unfold wLoad
  repeat' (first | exact hk _ _ | exact id | refine And.imp_right ?_ | refine Exists.imp fun _ => ?_ | refine valA_imp fun _ => ?_ | split)

theorem wStore_imp {t : TypeId} {x v : AV} : wStore T t x v σ K → wStore T t x v σ K' := by
  unfold wStore
  repeat' (first | exact hk _ _ | exact id | refine And.imp_right ?_ | refine Exists.imp fun _ => ?_ | split)

theorem wNil_imp {x : AV} : wNil x σ K → wNil x σ K' := by
  unfold wNil
  repeat' (first | exact hk _ _ | exact id | split)

theorem wBuild_imp {t : TypeId} {parts : List (Nat × AV)} : wBuild T t parts σ K → wBuild T t parts σ K' := by
  unfold wBuild
  refine And.imp_right ?_
  repeat' (first | exact hk _ _ | exact id | refine And.imp_right ?_ | split)

theorem wBuildSlice_imp {mt : Bool} {t : TypeId} {n : Nat} {parts : List (Nat × AV)} : wBuildSlice T mt t n parts σ K → wBuildSlice T mt t n parts σ K' := by
  unfold wBuildSlice
  repeat' (first | exact wRow_imp hk | exact id | refine And.imp_right ?_ | split)

theorem wFieldAddr_imp {s : TypeId} {x : AV} {f : Nat} : wFieldAddr T s x f σ K → wFieldAddr T s x f σ K' := by
  unfold wFieldAddr
  repeat' (first | exact hk _ _ | exact id | refine And.imp_right ?_ | split)

theorem wField_imp {s : TypeId} {x : AV} {f : Nat} : wField T s x f σ K → wField T s x f σ K' := by
  unfold wField
  repeat' (first | exact hk _ _ | exact id | refine valA_imp fun _ => ?_ | split)

theorem wIndexAddr_imp {t : TypeId} {x ix : AV} : wIndexAddr T t x ix σ K → wIndexAddr T t x ix σ K' := by
  unfold wIndexAddr
  repeat' (first | exact hk _ _ | exact id | refine And.imp_right ?_ | refine Exists.imp fun _ => ?_ | refine wIdx_imp fun _ => ?_ | split)

theorem wIndex_imp {t : TypeId} {x ix : AV} : wIndex T t x ix σ K → wIndex T t x ix σ K' := by
  unfold wIndex
  repeat' (first | exact hk _ _ | exact id | refine And.imp_right ?_ | refine Exists.imp fun _ => ?_ | refine wIdx_imp fun _ => ?_ | refine valA_imp fun _ => ?_ | split)

theorem wSlice_imp {t : TypeId} {x : AV} {lo hi mx : Option AV} : wSlice T t x lo hi mx σ K → wSlice T t x lo hi mx σ K' := by
  unfold wSlice
  split
  all_goals repeat' (first | exact hk _ _ | exact id | refine And.imp_right ?_ | refine Exists.imp fun _ => ?_ | refine Or.imp ?_ ?_ | refine wBnd_imp fun _ => ?_)

theorem wBin_imp {op : BinOp} {t : TypeId} {x y : AV} : wBin T op t x y σ K → wBin T op t x y σ K' := by
  unfold wBin
  split
  all_goals repeat' (first | exact hk _ _ | exact id | refine And.imp_right ?_ | split)

theorem wUn_imp {op : UnOp} {x : AV} : wUn op x σ K → wUn op x σ K' := by
  unfold wUn
  repeat' (first | exact hk _ _ | exact id | split)

theorem wConv_imp {mt : Bool} {s d : TypeId} {x : AV} : wConv T mt s d x σ K → wConv T mt s d x σ K' := by
  unfold wConv
  refine And.imp_right ?_
  split
  all_goals repeat' (first | exact hk _ _ | exact id | refine And.imp_right ?_ | refine Exists.imp fun _ => ?_ | split)

theorem wAppend_imp {t : TypeId} {s x : AV} : wAppend T t s x σ K → wAppend T t s x σ K' := by
  unfold wAppend
  split
  case h_2 => exact id
  refine And.imp_right (And.imp_right (srcA_imp fun n xs => And.imp_right (Or.imp (And.imp_right (And.imp_right (hk _ _))) (And.imp_right ?_))))
  repeat' (first | exact hk _ _ | exact id | refine And.imp_right ?_ | refine Exists.imp fun _ => ?_ | split)

theorem wMakeSlice_imp {t : TypeId} {l c : AV} : wMakeSlice T t l c σ K → wMakeSlice T t l c σ K' := by
  unfold wMakeSlice
  repeat' (first | exact hk _ _ | exact id | refine And.imp_right ?_ | refine Exists.imp fun _ => ?_ | split)

theorem wLookup_imp {t : TypeId} {m k : AV} {c : Bool} : wLookup T t m k c σ K → wLookup T t m k c σ K' := by
  unfold wLookup
  repeat' (first | exact hk _ _ | exact id | exact wFound_imp hk | refine And.imp_right ?_ | refine Exists.imp fun _ => ?_ | split)

theorem wMapUpd_imp {t : TypeId} {m k v : AV} : wMapUpd T t m k v σ K → wMapUpd T t m k v σ K' := by
  unfold wMapUpd
  repeat' (first | exact hk _ _ | exact id | refine And.imp_right ?_ | refine Exists.imp fun _ => ?_ | split)

theorem wCopy_imp {t : TypeId} {d x : AV} : wCopy T t d x σ K → wCopy T t d x σ K' := by
  unfold wCopy
  split
  case h_2 => exact id
  refine And.imp_right (srcA_imp fun n xs => ?_)
  repeat' (first | exact hk _ _ | exact id | refine And.imp_right ?_ | refine Exists.imp fun _ => ?_ | refine Or.imp ?_ ?_ | split)

theorem wUnsafeString_imp {pt : TypeId} {p n : AV} : wUnsafeString T pt p n σ K → wUnsafeString T pt p n σ K' := by
  unfold wUnsafeString
  repeat' (first | exact hk _ _ | exact id | refine And.imp_right ?_ | refine Exists.imp fun _ => ?_ | refine Or.imp ?_ ?_ | split)

theorem wBuiltin_imp {b : Builtin} {ts : List TypeId} {args : List AV} : wBuiltin T b ts args σ K → wBuiltin T b ts args σ K' := by
  unfold wBuiltin
  split
  all_goals repeat' (first | exact hk _ _ | exact id | exact wCopy_imp hk | exact wUnsafeString_imp hk | exact wAppend_imp hk | refine And.imp_right ?_ | refine Exists.imp fun _ => ?_ | split)

theorem wCall_imp {c : Call} {e : Env} {N : Nat} : wCall P T c e N σ K → wCall P T c e N σ K' := by
  unfold wCall
  repeat' (first | exact wBuiltin_imp hk | exact id | exact fun h => C_mono h hk | split)

theorem wOp_imp {mt : Bool} {op : Op} {e : Env} {N : Nat} : wOp P T mt op e N σ K → wOp P T mt op e N σ K' := by
  unfold wOp
  split
  all_goals first
    | exact hk _ _
    | exact And.imp_right (hk _ _)
    | exact wBuild_imp hk
    | exact wBuildSlice_imp hk
    | exact wLoad_imp hk
    | exact wStore_imp hk
    | exact wNil_imp hk
    | exact wBin_imp hk
    | exact wUn_imp hk
    | exact wConv_imp hk
    | exact wSlice_imp hk
    | exact wFieldAddr_imp hk
    | exact wField_imp hk
    | exact wIndexAddr_imp hk
    | exact wIndex_imp hk
    | exact wCall_imp hk
    | exact wMakeSlice_imp hk
    | exact wLookup_imp hk
    | exact wMapUpd_imp hk
    | repeat' (first | exact hk _ _ | exact id | split)

end

theorem wPut_imp {dst : Option Nat} {N : Nat} {e : Env} {v : AV} {K K' : Env → Prop} (hk : ∀ e, K e → K' e) : wPut dst N e v K → wPut dst N e v K' := by
  unfold wPut fv
  repeat' (first | exact hk _ | exact id | split)

theorem fv_of {v : AV} {K : AV → Prop} (h : K v) : fv v K := by cases v <;> exact h

end Go.Proofs.QQ
end
section
set_option linter.unusedVariables false
set_option linter.unusedSimpArgs false
namespace Go.Proofs.QQ
open Go

variable {P : Program} {T : Tab}

section
variable {x : X} {K : AV → X → Prop}

theorem copy_x {t : TypeId} {d y : AV} (h : xCopy False T t d y x K) : wCopy T t d y x.st (GoOn K) := by
  unfold xCopy at h
  unfold wCopy
  cases hd : T.td t <;> simp only [hd] at h ⊢
  case sl e =>
    split at h
    · exact h.elim
    rename_i z hz
    rw [hz]
    refine ⟨by omega, src_mono (src_x h) fun n xs h => ?_⟩
    split at h
    · exact go_here h
    · rename_i o g off len esz
      split at h
      · rename_i he hm
        exact ⟨Nat.eq_of_beq_eq_true he, 0, hm.symm, .inl ⟨rfl, go_here h⟩⟩
      · rename_i k he hm
        split at h
        case h_2 => exact h.elim
        rename_i hall hbase
        obtain ⟨cells, wm, h1, h2, h⟩ := row2_x h
        rcases h with h | ⟨segs, ps, ty, rfl, hty, h⟩
        · obtain ⟨h3, h⟩ := le_x h
          obtain ⟨h4, h⟩ := le_x h
          rw [fList_eq] at h
          obtain ⟨x', h5, h6⟩ := set_x h
          exact ⟨Nat.eq_of_beq_eq_true he, k + 1, hm.symm, .inr ⟨by omega, hall, cells, wm, _, h1, Nat.le_of_ble_eq_true hbase, h2, h3, h4, rfl, x', h5, h6⟩⟩
        · obtain ⟨h3, h⟩ := le_x h
          obtain ⟨h4, h⟩ := le_x h
          split at h
          case h_2 => exact h.elim
          rename_i hl
          have hl' := Nat.eq_of_beq_eq_true hl
          rw [fList_eq] at h
          obtain ⟨x', hk, hx'⟩ := X.setO_st h
          refine ⟨Nat.eq_of_beq_eq_true he, k + 1, hm.symm, .inr ⟨by omega, hall, _, wm, _, h1, Nat.le_of_ble_eq_true hbase, h2, h3, by rw [bigLen]; exact h4, rfl, x', ?_, hk⟩⟩
          rw [hx', St.set_setT, hty]
          have := addP_eq segs _ _ ps (Nat.le_trans (Nat.le_of_eq (congrArg _ hl')) h4)
          simp only [XO.obj, XO.ty]
          rw [this]
          rfl
      · exact h.elim
    · exact h.elim

theorem unsafeString_x {pt : TypeId} {p n : AV} (h : xUnsafeString False T pt p n x K) : wUnsafeString T pt p n x.st (GoOn K) := by
  unfold xUnsafeString at h
  unfold wUnsafeString
  split at h
  · split at h
    · exact ⟨0, rfl, by omega, .inl ⟨rfl, go_here h⟩⟩
    · exact ⟨rfl, go_here h⟩
    · exact h.elim
  · rename_i o g k
    split at h
    case h_2 => exact h.elim
    rename_i e e' h1 h2 h3
    split at h
    case h_2 => exact h.elim
    rename_i h4 h5
    obtain rfl := Nat.eq_of_beq_eq_true h4
    obtain ⟨h6, h⟩ := le_x h
    obtain ⟨cells, wm, h7, h8, h⟩ := row_x h
    obtain ⟨s, h9, h⟩ := unB_x h
    split at h
    case h_2 => exact h.elim
    rename_i h10
    obtain ⟨x', h11, h12⟩ := set_x h
    exact ⟨k + 1, rfl, by omega, .inr ⟨by omega, rfl, cells, wm, s, _, h7, Nat.le_of_ble_eq_true h3, h8, h2, h1, h5, h9, Nat.eq_of_beq_eq_true h10, x', h11, h12⟩⟩
  · exact h.elim

theorem builtin_x {b : Builtin} {ts : List TypeId} {args : List AV} (h : xBuiltin False T b ts args x K) : wBuiltin T b ts args x.st (GoOn K) := by
  unfold xBuiltin at h
  unfold wBuiltin
  split at h
  · rename_i t ts o as
    simp only
    split at h
    case h_2 => exact h.elim
    rename_i k e hd
    obtain ⟨es, h1, h2, h3⟩ := map_x h
    exact ⟨⟨k, e, hd⟩, es, h1, h2, go_here h3⟩
  · split at h
    · rename_i e hd; exact ⟨⟨e, hd⟩, go_here h⟩
    · exact h.elim
  · exact copy_x h
  · exact go_here h
  · split at h
    · exact h.elim
    · exact ⟨by omega, go_here h⟩
  · exact unsafeString_x h
  · rename_i t ts v as hne
    split at h
    · rename_i n hn
      cases v
      case mp o => exact (hne o rfl).elim
      all_goals (simp only [hn]; exact go_here h)
    · exact h.elim
  · split at h
    · rename_i e hd
      simp only [hd]
      exact ⟨trivial, append_x h⟩
    · rename_i hd
      simp only [hd]
      exact ⟨trivial, append_x h⟩
    · exact h.elim
  · split at h
    · rename_i v hv; simp only [hv]; exact go_here h
    · exact h.elim
  · split at h
    · rename_i v hv; simp only [hv]; exact go_here h
    · exact h.elim
  · exact h.elim

theorem xev_eq (e : XE) (N : Nat) (o : Operand) : xev T e N o = ev T e.env N o := by
  cases o <;> simp only [xev, ev, XE.env]
  case tmp t => cases h : Nat.blt t N <;> simp [h]
  case global g => cases T.glob g <;> rfl

theorem xev_fun (e : XE) (N : Nat) : xev T e N = ev T e.env N := funext (xev_eq e N)

theorem xArgs_eq (e : XE) (N : Nat) (l : List Operand) : xArgs T e N l = l.map (ev T e.env N) := by
  induction l with
  | nil => rfl
  | cons o l ih => simp only [xArgs, ih, xev_eq, List.map_cons]

theorem xParts_eq (e : XE) (N : Nat) (l : List (Nat × Operand)) : xParts T e N l = l.map fun p => (p.1, ev T e.env N p.2) := by
  induction l with
  | nil => rfl
  | cons o l ih => simp only [xParts, ih, xev_eq, List.map_cons]

abbrev Caller := FuncId → List AV → X → (AV → X → Prop) → Prop

def CallOk (P : Program) (T : Tab) (call : Caller) : Prop := ∀ f args x K, call f args x K → ACall P T f args x.st (GoOn K)

variable {call : Caller}

theorem call_x (hc : CallOk P T call) {c : Call} {e : XE} {N : Nat} (h : xCall False T call c e N x K) : wCall P T c e.env N x.st (GoOn K) := by
  unfold xCall at h
  unfold wCall
  simp only [xev_eq, xArgs_eq, fList_eq] at h
  split at h
  · rename_i f hf
    simp only [hf]
    split at h
    · rename_i g first captured hv
      simp only [hv]
      rw [← List.append_assoc] at h
      exact hc _ _ _ _ h
    · exact h.elim
  · rename_i r name hf
    simp only [hf]
    split at h
    · rename_i t v hv
      simp only [hv]
      split at h
      · rename_i g hg
        simp only [hg]
        exact hc _ _ _ _ h
      · exact h.elim
    · exact h.elim
  · rename_i b hf
    simp only [hf]
    exact builtin_x h

theorem op_x (ok : TabOk P T) (hc : CallOk P T call) {mt : Bool} {op : Op} {e : XE} {N : Nat} (h : xOp False T call mt op e N x K) : wOp P T mt op e.env N x.st (GoOn K) := by
  cases op <;> simp only [xOp, xev_fun, xArgs_eq, xParts_eq, fList_eq] at h <;> simp only [wOp]
  case move => exact go_here h
  case assign => exact go_here h
  case pick c a b =>
    split at h
    · rename_i hv; simp only [hv]; exact go_here h
    · rename_i hv; simp only [hv]; exact go_here h
    · exact h.elim
  case alloc t =>
    split at h
    · exact h.elim
    · rename_i z hz
      refine ⟨by omega, ?_⟩
      split at h
      · obtain ⟨x', h1, h2⟩ := X.pushK_st h
        exact ⟨x', h2, h1⟩
      · rename_i segs hs
        obtain ⟨x', h1, h2⟩ := X.pushO_st h
        refine ⟨x', ?_, h1⟩
        rw [h2]
        simp only [XO.obj, XO.ty, zeroA, ok.big _ _ hs]
        rfl
  case box t v =>
    split at h
    · rename_i cells hcells
      simp only [hcells]
      cases mt with
      | true =>
        obtain ⟨x', h1, h2⟩ := X.pushK_st h
        exact ⟨x', h2, h1⟩
      | false =>
        simp only at h ⊢
        split at h
        · rename_i hp; simp only [hp]; exact go_here h
        · exact h.elim
    · exact h.elim
  case build => exact build_x h
  case buildSlice => exact buildSlice_x h
  case load => exact load_x h
  case store => exact store_x h
  case nilCheck => exact nil_x h
  case binOp => exact bin_x h
  case unOp => exact un_x h
  case convert => exact conv_x h
  case makeInterface t v =>
    split at h
    · exact h.elim
    · exact h.elim
    · refine ⟨?_, go_here h⟩
      split
      · simp_all
      · simp_all
      · trivial
  case makeFunc => exact go_here h
  case slice => exact slice_x h
  case fieldAddr => exact fieldAddr_x h
  case field => exact field_x h
  case indexAddr => exact indexAddr_x h
  case index => exact index_x h
  case extract v i =>
    split at h
    · rename_i vs hv
      simp only [hv]
      split at h
      · rename_i v hv; simp only [hv]; exact go_here h
      · exact h.elim
    · exact h.elim
  case call => exact call_x hc h
  case makeSlice => exact makeSlice_x h
  case makeMap t o =>
    cases o with
    | none =>
      simp only [xOp] at h
      obtain ⟨x', h1, h2⟩ := X.pushK_st h
      exact ⟨x', h2, h1⟩
    | some _ => simp only [xOp] at h
  case lookup => exact lookup_x h
  case mapUpdate => exact mapUpd_x h
  all_goals exact h

end

/-- What the machine goes on with behind slots and states. -/
def GoEnv (K : XE → X → Prop) : Env → St → Prop := fun env σ => ∃ e x, XE.env e = env ∧ x.st = σ ∧ K e x

theorem put_x {dst : Option Nat} {N : Nat} {e : XE} {v : AV} {K : XE → Prop} (h : xPut False dst N e v K) : wPut dst N e.env v fun env => ∃ e' : XE, e'.env = env ∧ K e' := by
  unfold xPut at h
  unfold wPut
  cases dst with
  | none => exact ⟨e, rfl, h⟩
  | some d =>
    simp only at h ⊢
    split at h
    · rename_i hb
      rw [fVal_eq] at h
      obtain ⟨t', h1, h2⟩ := PT.setK_get .bad h
      simp only [hb]
      refine fv_of ⟨t', ?_, h1⟩
      funext t
      simp only [XE.env, upd, h2]
      by_cases htd : t = d
      · subst htd; simp
      · have : Nat.beq t d = false := by
          cases hx : Nat.beq t d with
          | false => rfl
          | true => exact absurd (Nat.eq_of_beq_eq_true hx) htd
        simp [this, htd]
    · exact h.elim

variable {call : Caller}

theorem ops_x (ok : TabOk P T) (hc : CallOk P T call) (M : Nat → Bool) (N : Nat) (all : List Oper) : ∀ (l : List Oper) (e : XE) (x : X) (K : XE → X → Prop), xOps False T call M N all l e x K → wOps P T M N all l e.env x.st (GoEnv K)
  | [], e, x, K, h => ⟨e, x, rfl, rfl, h⟩
  | o :: l, e, x, K, h => by
    have ih := ops_x ok hc M N all l
    have h : (match o.guard with
      | none => xOp False T call (wMt M o.dst) o.op e N x fun v x' => xPut False o.dst N e v fun e' => xOps False T call M N all l e' x' K
      | some (j, want) => match slotOf all j with
        | none => False
        | some d => match Nat.blt d N, e.get .bad d with
          | true, .bool b => match b == want with
            | true => xOp False T call (wMt M o.dst) o.op e N x fun v x' => xPut False o.dst N e v fun e' => xOps False T call M N all l e' x' K
            | false => xPut False o.dst N e undefA fun e' => xOps False T call M N all l e' x K
          | true, .tup [] => xPut False o.dst N e undefA fun e' => xOps False T call M N all l e' x K
          | _, _ => False) := h
    have run : (xOp False T call (wMt M o.dst) o.op e N x fun v x' => xPut False o.dst N e v fun e' => xOps False T call M N all l e' x' K) →
        wOp P T (wMt M o.dst) o.op e.env N x.st fun v σ' => wPut o.dst N e.env v fun e' => wOps P T M N all l e' σ' (GoEnv K) := fun h =>
      wOp_imp (fun v σ ⟨x', hx', h⟩ => by
        subst hx'
        exact wPut_imp (fun env ⟨e', he', h⟩ => by subst he'; exact ih _ _ _ h) (put_x h)) (op_x ok hc h)
    have skip : (xPut False o.dst N e undefA fun e' => xOps False T call M N all l e' x K) → wPut o.dst N e.env undefA fun e' => wOps P T M N all l e' x.st (GoEnv K) := fun h =>
      wPut_imp (fun env ⟨e', he', h⟩ => by subst he'; exact ih _ _ _ h) (put_x h)
    simp only [wOps]
    split at h
    · rename_i hg
      simp only [hg]
      exact run h
    · rename_i j want hg
      simp only [hg]
      split at h
      · exact h.elim
      · rename_i d hd
        simp only [hd]
        split at h
        · rename_i b hb hv
          have hv' : e.env d = .bool b := hv
          simp only [hb, hv']
          split at h
          · rename_i hbw; simp only [hbw]; exact run h
          · rename_i hbw; simp only [hbw]; exact skip h
        · rename_i hb hv
          have hv' : e.env d = .tup [] := hv
          simp only [hb, hv']
          exact skip h
        · exact h.elim

/-! ### Scopes -/

theorem A_goto {N l : Nat} {e : Env} {σ : St} {Q : Exit → Env → St → Prop} (h : Q (.goto l) e σ) : ACode P T N (.goto l) e σ Q :=
  fun γ w a hr he => wp_goto ⟨e, σ, γ, he, Step.refl _ _ _, hr, rfl, h⟩

def jumpQ (l : Nat) (J : Env → St → Prop) (Q : Exit → Env → St → Prop) : Exit → Env → St → Prop
  | .goto l', e, σ => l' = l ∧ J e σ
  | ex, e, σ => Q ex e σ

/-- A scope with one label, by what holds at each jump. -/
theorem A_scope {N : Nat} {c rest : Code} {e : Env} {σ : St} {Q : Exit → Env → St → Prop} (l : Nat) (hf : findLabel c l = some rest) (I : Nat → Env → St → Prop)
    (first : ACode P T N c e σ (jumpQ l (fun e σ => ∃ m, I m e σ) Q)) (pass : ∀ m e σ, I m e σ → ACode P T N rest e σ (jumpQ l (fun e σ => ∃ m', m' < m ∧ I m' e σ) Q)) : ACode P T N (.scope c) e σ Q := fun γ w a hr he => by
  let J : Nat → Act → World → Prop := fun m a' w' => ∃ e' σ' γ', EnvRel γ' w' e' N a' ∧ Step γ σ.base w γ' w' ∧ Rel T.glob γ' σ' w' ∧ σ'.base = σ.base ∧ I m e' σ'
  have hfind : ∀ a' w', (∃ m, J m a' w') → ∃ m, J m a' w' ∧ ∀ m', J m' a' w' → m ≤ m' := by
    intro a' w' ⟨m, hm⟩
    induction m using Nat.strongRecOn with
    | _ m ih =>
      by_cases hx : ∃ m', m' < m ∧ J m' a' w'
      · obtain ⟨m', hlt, hj⟩ := hx; exact ih m' hlt hj
      · exact ⟨m, hm, fun m' hj => by
          rcases Nat.lt_or_ge m' m with h | h
          · exact absurd ⟨m', h, hj⟩ hx
          · exact h⟩
  open Classical in
  let μ : Act → World → Nat := fun a' w' => if hx : ∃ m, J m a' w' then (hfind a' w' hx).choose else 0
  refine wp_scope_jumps l (fun a' w' => ∃ m, J m a' w') μ hf ?_ fun a' w' hI => ?_
  · refine wp_mono (first γ w a hr he) fun ex a' w' hp => ?_
    obtain ⟨e', σ', γ', h1, h2, h3, h4, h5⟩ := hp
    cases ex
    case goto l' =>
      obtain ⟨rfl, m, hm⟩ := h5
      exact ⟨rfl, m, e', σ', γ', h1, h2, h3, h4, hm⟩
    all_goals exact ⟨e', σ', γ', h1, h2, h3, h4, h5⟩
  · have hμ : μ a' w' = (hfind a' w' hI).choose := dif_pos hI
    obtain ⟨hj, hmin⟩ := (hfind a' w' hI).choose_spec
    rw [← hμ] at hj hmin
    obtain ⟨e', σ', γ', h1, h2, h3, h4, h5⟩ := hj
    refine wp_mono (pass _ e' σ' h5 γ' w' a' h3 h1) fun ex a'' w'' hp => ?_
    obtain ⟨e2, σ2, γ2, k1, k2, k3, k4, k5⟩ := hp
    have kst := h2.trans (h4 ▸ k2)
    cases ex
    case goto l' =>
      obtain ⟨rfl, m', hlt, hI'⟩ := k5
      have hex : ∃ m, J m a'' w'' := ⟨m', e2, σ2, γ2, k1, kst, k3, k4.trans h4, hI'⟩
      refine ⟨rfl, hex, ?_⟩
      have hμ' : μ a'' w'' = (hfind a'' w'' hex).choose := dif_pos hex
      have hle := (hfind a'' w'' hex).choose_spec.2 m' ⟨e2, σ2, γ2, k1, kst, k3, k4.trans h4, hI'⟩
      rw [← hμ'] at hle
      omega
    all_goals exact ⟨e2, σ2, γ2, k1, kst, k3, k4.trans h4, k5⟩

/-- The first label of a piece of code. -/
def labelOf : Code → Option Nat
  | .label l => some l
  | .seq a b => match labelOf a with
    | some l => some l
    | none => labelOf b
  | _ => none

section
variable {R : Type} (bot : R)

/-- A scope with one label: run, and again from the label on. -/
noncomputable def xScope (run : Code → XK R) (fuel : Nat) (c : Code) : XK R := fun e x K =>
  match labelOf c with
  | none => bot
  | some l => match findLabel c l with
    | none => bot
    | some rest => run c e x fun ex e x => match ex with
      | .goto l' => match Nat.beq l' l with
        | true => Nat.rec (motive := fun _ => XE → X → R) (fun _ _ => bot) (fun _ again e x => run rest e x fun ex e x => match ex with
          | .goto l' => match Nat.beq l' l with
            | true => again e x
            | false => bot
          | ex => K ex e x) fuel e x
        | false => bot
      | ex => K ex e x
end

/-- What the machine goes on with behind code. -/
def GoX (K : Exit → XE → X → Prop) : Exit → Env → St → Prop := fun ex env σ => ∃ e x, XE.env e = env ∧ x.st = σ ∧ K ex e x

/-- All regions that draw their order are good ones. -/
def CodeAll (good : Nat → List Oper → Prop) : Code → Prop
  | .region id ops true => good id ops.toList
  | .seq a b | .cond _ a b => CodeAll good a ∧ CodeAll good b
  | .block _ c | .loop c | .scope c => CodeAll good c
  | _ => True

def CodeOk (P : Program) (T : Tab) (N : Nat) (good : Nat → List Oper → Prop) (run : Code → XK Prop) : Prop := ∀ c e x K, CodeAll good c → run c e x K → ACode P T N c e.env x.st (GoX K)

theorem findLabel_all {good : Nat → List Oper → Prop} {l : Nat} : ∀ {c rest : Code}, CodeAll good c → findLabel c l = some rest → CodeAll good rest := by
  intro c
  induction c with
  | seq a b iha ihb =>
    intro rest h hf
    simp only [findLabel] at hf
    cases ha : findLabel a l with
    | some r =>
      rw [ha] at hf
      simp at hf
      subst hf
      exact ⟨iha h.1 ha, h.2⟩
    | none =>
      rw [ha] at hf
      simp at hf
      exact ihb h.2 hf
  | label l' =>
    intro rest h hf
    simp only [findLabel] at hf
    split at hf
    · simp at hf; subst hf; trivial
    · cases hf
  | _ => intro rest h hf; simp [findLabel] at hf

theorem scope_x {N : Nat} {good : Nat → List Oper → Prop} {run : Code → XK Prop} (hr : CodeOk P T N good run) (fuel : Nat) (c : Code) (e : XE) (x : X) (K : Exit → XE → X → Prop) (ho : CodeAll good c) (h : xScope False run fuel c e x K) : ACode P T N (.scope c) e.env x.st (GoX K) := by
  unfold xScope at h
  split at h
  · exact h.elim
  rename_i l hl
  split at h
  · exact h.elim
  rename_i rest hrest
  let loop : Nat → XE → X → Prop := Nat.rec (motive := fun _ => XE → X → Prop) (fun _ _ => False) (fun _ again e x => run rest e x fun ex e x => match ex with
          | .goto l' => match Nat.beq l' l with
            | true => again e x
            | false => False
          | ex => K ex e x)
  refine A_scope l hrest (fun m env σ => ∃ e x, XE.env e = env ∧ x.st = σ ∧ loop m e x) ?_ fun m env σ hI => ?_
  · refine A_mono (hr _ _ _ _ ho h) fun ex env σ hp => ?_
    obtain ⟨e', x', he', hx', hk⟩ := hp
    cases ex
    case goto l' =>
      simp only at hk
      split at hk
      · rename_i hb
        exact ⟨Nat.eq_of_beq_eq_true hb, _, e', x', he', hx', hk⟩
      · exact hk.elim
    all_goals exact ⟨e', x', he', hx', hk⟩
  · obtain ⟨e', x', rfl, rfl, hl⟩ := hI
    cases m with
    | zero => exact hl.elim
    | succ m =>
      have hl : run rest e' x' fun ex e x => match ex with
          | .goto l' => match Nat.beq l' l with
            | true => loop m e x
            | false => False
          | ex => K ex e x := hl
      refine A_mono (hr _ _ _ _ (findLabel_all ho hrest) hl) fun ex env σ hp => ?_
      obtain ⟨e2, x2, he2, hx2, hk⟩ := hp
      cases ex
      case goto l' =>
        simp only at hk
        split at hk
        · rename_i hb
          exact ⟨Nat.eq_of_beq_eq_true hb, m, Nat.lt_succ_self _, e2, x2, he2, hx2, hk⟩
        · exact hk.elim
      all_goals exact ⟨e2, x2, he2, hx2, hk⟩

/-! ### Code -/

def normQ (K : XE → X → Prop) : Exit → Env → St → Prop
  | .normal => GoEnv K
  | _ => fun _ _ => False

def DrawOk (P : Program) (T : Tab) (N : Nat) (good : Nat → List Oper → Prop) (draw : Nat → List Oper → XE → X → (XE → X → Prop) → Prop) : Prop :=
  ∀ id l e x K, good id l → draw id l e x K → ACode P T N (.region id l.toArray true) e.env x.st (normQ K)

theorem code_x (ok : TabOk P T) (pe : PeqOk P T) (hc : CallOk P T call) (M : Nat → Bool) {good : Nat → List Oper → Prop} {N fuel : Nat} {draw : Nat → List Oper → XE → X → (XE → X → Prop) → Prop} (hd : DrawOk P T N good draw)
    {scope : Code → XK Prop} (hs : ∀ c e x K, CodeAll good c → scope c e x K → ACode P T N (.scope c) e.env x.st (GoX K)) : CodeOk P T N good (xCode False T call M N fuel draw scope) := by
  intro c
  induction c with
  | skip => intro e x K ho h; exact A_skip ⟨e, x, rfl, rfl, h⟩
  | region id ops drawn =>
    intro e x K ho h
    cases drawn with
    | false =>
      have hw : wOps P T M N ops.toList ops.toList e.env x.st (GoX K .normal) := ops_x ok hc M N _ _ _ _ _ h
      have := A_region (id := id) ok pe M hw
      simpa using this
    | true =>
      have := A_mono (hd id ops.toList e x (K .normal) ho h) (Q' := GoX K) fun ex env σ hq => by
        cases ex
        case normal => exact hq
        all_goals exact hq.elim
      simpa using this
  | seq a b iha ihb =>
    intro e x K ho h
    have h : xCode False T call M N fuel draw scope a e x (fun ex e x => match ex with
      | .normal => xCode False T call M N fuel draw scope b e x K
      | ex => K ex e x) := h
    refine A_seq (A_mono (iha _ _ _ ho.1 h) fun ex env σ hp => ?_)
    obtain ⟨e', x', rfl, rfl, hk⟩ := hp
    cases ex
    case normal => exact ihb _ _ _ ho.2 hk
    all_goals exact ⟨e', x', rfl, rfl, hk⟩
  | cond c a b iha ihb =>
    intro e x K ho h
    have h : (match xev T e N c with
      | .bool true => xCode False T call M N fuel draw scope a e x K
      | .bool false => xCode False T call M N fuel draw scope b e x K
      | _ => False) := h
    rw [xev_eq] at h
    split at h
    · rename_i hv; exact A_cond hv (fun _ => iha _ _ _ ho.1 h) (fun hf => by cases hf)
    · rename_i hv; exact A_cond hv (fun hf => by cases hf) (fun _ => ihb _ _ _ ho.2 h)
    · exact h.elim
  | block id c ih =>
    intro e x K ho h
    have h : xCode False T call M N fuel draw scope c e x (fun ex e x => match ex with
      | .exit i => match Nat.beq i id with
        | true => K .normal e x
        | false => K (.exit i) e x
      | ex => K ex e x) := h
    refine A_block (A_mono (ih _ _ _ ho h) fun ex env σ hp => ?_)
    obtain ⟨e', x', rfl, rfl, hk⟩ := hp
    cases ex
    case exit i =>
      simp only [blockQ] at hk ⊢
      split at hk
      · rename_i hb
        rw [if_pos (Nat.eq_of_beq_eq_true hb)]
        exact ⟨e', x', rfl, rfl, hk⟩
      · rename_i hb
        rw [if_neg (fun hi => by rw [hi] at hb; simp at hb)]
        exact ⟨e', x', rfl, rfl, hk⟩
    all_goals exact ⟨e', x', rfl, rfl, hk⟩
  | loop c ih =>
    intro e x K ho h
    let loop : Nat → XE → X → Prop := Nat.rec (motive := fun _ => XE → X → Prop) (fun _ _ => False) (fun _ again e x => xCode False T call M N fuel draw scope c e x fun ex e x => match ex with
      | .normal => again e x
      | ex => K ex e x)
    have h : loop fuel e x := h
    refine A_loop (fun m env σ => ∃ e x, XE.env e = env ∧ x.st = σ ∧ loop m e x) fuel ⟨e, x, rfl, rfl, h⟩ fun m env σ hI => ?_
    obtain ⟨e', x', rfl, rfl, hl⟩ := hI
    cases m with
    | zero => exact hl.elim
    | succ m =>
      have hl : xCode False T call M N fuel draw scope c e' x' (fun ex e x => match ex with
        | .normal => loop m e x
        | ex => K ex e x) := hl
      refine A_mono (ih _ _ _ ho hl) fun ex env σ hp => ?_
      obtain ⟨e2, x2, he2, hx2, hk⟩ := hp
      cases ex
      case normal => exact ⟨m, Nat.lt_succ_self _, e2, x2, he2, hx2, hk⟩
      all_goals exact ⟨e2, x2, he2, hx2, hk⟩
  | exit id => intro e x K ho h; exact A_exit ⟨e, x, rfl, rfl, h⟩
  | scope c ih => intro e x K ho h; exact hs c e x K ho h
  | label l => intro e x K ho h; exact A_label ⟨e, x, rfl, rfl, h⟩
  | goto l => intro e x K ho h; exact A_goto ⟨e, x, rfl, rfl, h⟩
  | ret => intro e x K ho h; exact A_ret ⟨e, x, rfl, rfl, h⟩
  | _ => intro e x K ho h; exact h.elim

end Go.Proofs.QQ
end
