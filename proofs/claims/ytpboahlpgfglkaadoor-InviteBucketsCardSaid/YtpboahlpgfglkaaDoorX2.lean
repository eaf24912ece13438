/-
  Own library, part 2: one rule for each operation.
-/
import Derived.Test.YtpboahlpgfglkaaDoorX1
import Derived.Laws.CopyRow
import Derived.Laws.Cells
import Derived.Laws.Rows
import Derived.Deep.MidRow
import Derived.Laws.Entries
namespace Go.Proofs.YtpboahlpgfglkaaDoor.X
open Go Go.RowKit
set_option linter.unusedVariables false

/-- is the operation made? -/
inductive Wanted (ops : List Oper) (env : Env) : Option (Nat × Bool) → Prop
  | none : Wanted ops env none
  | yes {g t : Nat} {want : Bool} : (ops[g]?).bind (·.dst) = some t → look env t = some (.bool want) → Wanted ops env (some (g, want))

/-- what the program says of a type -/
class TI (P : Program) (t : Nat) (d : outParam TypeDesc) (z : outParam Value) (sz by_ : outParam Nat) : Prop where
  und : P.underlying t = some d
  inf : (P.info? t).map (fun i => (i.zero, i.size, i.bytes)) = some (some z, sz, by_)
/-- a struct's field: where it lies -/
class FA (P : Program) (t k : Nat) (off : outParam Nat) : Prop where
  ok : (match P.underlying t with
    | some (.struct fs) => (match fs[k]? with
      | some f => (match P.info? f.type with
        | some i => some (f.offset, Nat.beq i.size 0)
        | none => none)
      | none => none)
    | _ => none) = some (off, false)
/-- a function with a body -/
class Fn (P : Program) (f : Nat) : Prop where
  ok : ∃ fn, P.funcs[f]? = some fn ∧ (fn.name == "runtime.NumGoroutine") = false ∧ fn.body.isNone = false

section
variable {P : Program}
theorem TI.get {t d z sz by_} [h : TI P t d z sz by_] : ∃ i, P.info? t = some i ∧ i.zero = some z ∧ i.size = sz ∧ i.bytes = by_ := by
  have := h.inf
  cases hi : P.info? t with
  | none => simp [hi] at this
  | some i => simp [hi] at this; exact ⟨i, rfl, this.1, this.2.1, this.2.2⟩
theorem FA.r_field {t k off b o : Nat} [h : FA P t k off] (w : World) : (Instr.fieldAt t (.pointer (some ⟨b, o, none⟩)) k).run P w = .ok (.pointer (some ⟨b, o + off, none⟩)) w := by
  have := h.ok
  cases hu : P.underlying t with
  | none => simp [hu] at this
  | some d =>
    cases d <;> simp [hu] at this
    rename_i fs
    cases hf : fs[k]? with
    | none => simp [hf] at this
    | some f =>
      cases hi : P.info? f.type with
      | none => simp [hf, hi] at this
      | some i =>
        simp [hf, hi] at this
        obtain ⟨rfl, h0⟩ := this
        have h0' : ¬ (i.size = 0) := fun e => by rw [e] at h0; simp at h0
        have hadd : (⟨b, o, none⟩ : Addr).add f.offset = ⟨b, o + f.offset, none⟩ := by unfold Addr.add; split <;> simp_all
        simp [Instr.fieldAt, run_underlying hu, hf, Instr.sureAddr, fieldPlace, sizeOf, typeInfo, hi, h0', hadd]
theorem TI.r_und {t d z sz by_} [h : TI P t d z sz by_] (w : World) : (underlying t).run P w = .ok d w := run_underlying h.und w
theorem TI.r_zero {t d z sz by_} [h : TI P t d z sz by_] (w : World) : (zeroValue t).run P w = .ok z w := by
  obtain ⟨i, h1, h2, h3, h4⟩ := h.get
  simp [zeroValue, typeInfo, h1, h2]
theorem TI.r_size {t d z sz by_} [h : TI P t d z sz by_] (w : World) : (sizeOf t).run P w = .ok sz w := by
  obtain ⟨i, h1, h2, h3, h4⟩ := h.get
  simp [sizeOf, typeInfo, h1, h3]
theorem TI.r_agg {t d z sz by_} [h : TI P t d z sz by_] (w : World) : (isAgg t).run P w = .ok d.isRow w := by
  unfold isAgg
  rw [Sem.run_bind, h.r_und w]
  cases d <;> simp [TypeDesc.isRow]
theorem TI.r_bytes {t d z sz by_} [h : TI P t d z sz by_] (w : World) : ((fun i => i.bytes) <$> typeInfo t).run P w = .ok by_ w := by
  obtain ⟨i, h1, h2, h3, h4⟩ := h.get
  simp [typeInfo, h1, h4]
end

section
variable {P : Program} {ops rest : List Oper} {Q : Exit → Act → World → Prop} {n : Nat} {ds : List Deferred} {w0 : World} {env env' : Env} {M M' : Mem} {H H' : List Ent}
  {d ty : Nat} {pos : String} {aft : Array Edge} {g : Option (Nat × Bool)} {x y : Operand}

theorem Wanted.true_ {a : Act} (hw : Wanted ops env g) (hr : Rep n ds env a) {o : Oper} (ho : o.guard = g) : Region.wanted o (yielded ops.toArray a.tmps) = true := by
  unfold Region.wanted
  rw [ho]
  cases hw with
  | none => rfl
  | yes h1 h2 =>
    have h3 := hr.at_ _ _ h2
    simp [yielded, h1, h3]

/-- an operation that the guard leaves out -/
theorem VL_out {op : Op} {j t : Nat} {want : Bool} (hj : (ops[j]?).bind (·.dst) = some t) (hv : look env t = some (.bool (!want))) (hl : Nat.blt d n = true)
    (h : VL P ops Q rest n ds w0 ((d, undef) :: env) M H) : VL P ops Q (⟨some d, op, ty, pos, aft, some (j, want)⟩ :: rest) n ds w0 env M H := by
  refine ⟨fun a w hr hs => ?_⟩
  have h3 := hr.at_ _ _ hv
  have : Region.wanted ⟨some d, op, ty, pos, aft, some (j, want)⟩ (yielded ops.toArray a.tmps) = false := by
    simp [Region.wanted, yielded, hj, h3]
  unfold wpList
  rw [this]
  simp only [Bool.false_eq_true, if_false]
  exact h _ _ (hr.put hl) hs
theorem Rep.dup {a : Act} {t : Nat} {v : Value} (h : Rep n ds env a) (hv : look env t = some v) : Rep n ds ((t, v) :: env) a := by
  refine ⟨h.size, h.df, fun i u hi => ?_⟩
  simp only [look] at hi
  cases hb : Nat.beq t i with
  | true => rw [hb] at hi; obtain rfl := Nat.eq_of_beq_eq_true hb; simp at hi; subst hi; exact h.at_ _ _ hv
  | false => rw [hb] at hi; exact h.at_ i u hi
/-- a slot's bool is one of the two: the ways part -/
theorem VL_split {t : Nat} {b : Bool} {l : List Oper} (hv : look env t = some (.bool b)) (ht : b = true → VL P ops Q l n ds w0 ((t, .bool true) :: env) M H) (hf : b = false → VL P ops Q l n ds w0 ((t, .bool false) :: env) M H) :
    VL P ops Q l n ds w0 env M H := by
  cases b
  · exact ⟨fun a w hr hs => hf rfl a w (hr.dup hv) hs⟩
  · exact ⟨fun a w hr hs => ht rfl a w (hr.dup hv) hs⟩
/-- a guarded operation whose guard is not known: the ways part -/
theorem VL_guard {op : Op} {dst : Option Nat} {j t : Nat} {want b : Bool} (hj : (ops[j]?).bind (·.dst) = some t) (hv : look env t = some (.bool b))
    (ht : b = true → VL P ops Q (⟨dst, op, ty, pos, aft, some (j, want)⟩ :: rest) n ds w0 ((t, .bool true) :: env) M H)
    (hf : b = false → VL P ops Q (⟨dst, op, ty, pos, aft, some (j, want)⟩ :: rest) n ds w0 ((t, .bool false) :: env) M H) :
    VL P ops Q (⟨dst, op, ty, pos, aft, some (j, want)⟩ :: rest) n ds w0 env M H := VL_split hv ht hf

theorem VL_guard_t {op : Op} {dst : Option Nat} {j t : Nat} {want : Bool} {p : Prop} {inst : Decidable p} (hj : (ops[j]?).bind (·.dst) = some t) (hv : look env t = some (.bool (decide p))) (hp : p)
    (ht : VL P ops Q (⟨dst, op, ty, pos, aft, some (j, want)⟩ :: rest) n ds w0 ((t, .bool true) :: env) M H) : VL P ops Q (⟨dst, op, ty, pos, aft, some (j, want)⟩ :: rest) n ds w0 env M H :=
  VL_split hv (fun _ => ht) (fun h => absurd hp (of_decide_eq_false h))
theorem VL_guard_f {op : Op} {dst : Option Nat} {j t : Nat} {want : Bool} {p : Prop} {inst : Decidable p} (hj : (ops[j]?).bind (·.dst) = some t) (hv : look env t = some (.bool (decide p))) (hp : ¬ p)
    (hf : VL P ops Q (⟨dst, op, ty, pos, aft, some (j, want)⟩ :: rest) n ds w0 ((t, .bool false) :: env) M H) : VL P ops Q (⟨dst, op, ty, pos, aft, some (j, want)⟩ :: rest) n ds w0 env M H :=
  VL_split hv (fun h => absurd (of_decide_eq_true h) hp) (fun _ => hf)

/-! ### the three forms of a rule -/
theorem VL_v {op : Op} {v : Value} (hw : Wanted ops env g) (hl : Nat.blt d n = true)
    (hrun : ∀ a w, Rep n ds env a → St w0 M H w → (execOp a.eval ⟨some d, op, ty, pos, aft, g⟩).run P w = .ok (.value v) w)
    (h : VL P ops Q rest n ds w0 ((d, v) :: env) M H) : VL P ops Q (⟨some d, op, ty, pos, aft, g⟩ :: rest) n ds w0 env M H := by
  refine ⟨fun a w hr hs => ?_⟩
  unfold wpList
  rw [hw.true_ hr rfl]
  simp only [if_true]
  refine .inl ?_
  unfold Oper.wp
  rw [hrun a w hr hs]
  exact h _ _ (hr.put hl) hs
/-- a value, and memory is another -/
theorem VL_w {ι : Type} {J : ι → Prop} {V : ι → Value} {M' : ι → Mem} {H' : ι → List Ent} {op : Op} (hw : Wanted ops env g) (hl : Nat.blt d n = true)
    (hrun : ∀ a w, Rep n ds env a → St w0 M H w → ∃ i w', (execOp a.eval ⟨some d, op, ty, pos, aft, g⟩).run P w = .ok (.value (V i)) w' ∧ J i ∧ St w0 (M' i) (H' i) w')
    (h : ∀ i, J i → VL P ops Q rest n ds w0 ((d, V i) :: env) (M' i) (H' i)) : VL P ops Q (⟨some d, op, ty, pos, aft, g⟩ :: rest) n ds w0 env M H := by
  refine ⟨fun a w hr hs => ?_⟩
  unfold wpList
  rw [hw.true_ hr rfl]
  simp only [if_true]
  refine .inl ?_
  unfold Oper.wp
  obtain ⟨i, w', h1, h2, h3⟩ := hrun a w hr hs
  rw [h1]
  exact h i h2 _ _ (hr.put hl) h3
/-- no value -/
theorem VL_s {op : Op} (hw : Wanted ops env g)
    (hrun : ∀ a w, Rep n ds env a → St w0 M H w → ∃ w', (execOp a.eval ⟨none, op, ty, pos, aft, g⟩).run P w = .ok .skip w' ∧ St w0 M' H' w')
    (h : VL P ops Q rest n ds w0 env M' H') : VL P ops Q (⟨none, op, ty, pos, aft, g⟩ :: rest) n ds w0 env M H := by
  refine ⟨fun a w hr hs => ?_⟩
  unfold wpList
  rw [hw.true_ hr rfl]
  simp only [if_true]
  refine .inl ?_
  unfold Oper.wp
  obtain ⟨w', h1, h3⟩ := hrun a w hr hs
  rw [h1]
  exact h _ _ hr h3
/-- an operation without a place that the guard leaves out -/
theorem VL_out' {op : Op} {j t : Nat} {want : Bool} (hj : (ops[j]?).bind (·.dst) = some t) (hv : look env t = some (.bool (!want)))
    (h : VL P ops Q rest n ds w0 env M H) : VL P ops Q (⟨none, op, ty, pos, aft, some (j, want)⟩ :: rest) n ds w0 env M H := by
  refine ⟨fun a w hr hs => ?_⟩
  have h3 := hr.at_ _ _ hv
  have : Region.wanted ⟨none, op, ty, pos, aft, some (j, want)⟩ (yielded ops.toArray a.tmps) = false := by
    simp [Region.wanted, yielded, hj, h3]
  unfold wpList
  rw [this]
  simp only [Bool.false_eq_true, if_false]
  exact h _ _ hr hs

/-! ### copies, picks, tuples -/
theorem VL_move {v : Value} (hw : Wanted ops env g) (hx : evo env x = some v) (hl : Nat.blt d n = true)
    (h : VL P ops Q rest n ds w0 ((d, v) :: env) M H) : VL P ops Q (⟨some d, .move x, ty, pos, aft, g⟩ :: rest) n ds w0 env M H :=
  VL_v hw hl (fun a w hr hs => by simp [execOp, hr.ev hx]) h
theorem VL_assign {v : Value} (hw : Wanted ops env g) (hx : evo env x = some v) (hl : Nat.blt d n = true)
    (h : VL P ops Q rest n ds w0 ((d, v) :: env) M H) : VL P ops Q (⟨some d, .assign x, ty, pos, aft, g⟩ :: rest) n ds w0 env M H :=
  VL_v hw hl (fun a w hr hs => by simp [execOp, hr.ev hx]) h
theorem VL_pick_t {c : Operand} {v : Value} (hw : Wanted ops env g) (hc : evo env c = some (.bool true)) (hx : evo env x = some v) (hl : Nat.blt d n = true)
    (h : VL P ops Q rest n ds w0 ((d, v) :: env) M H) : VL P ops Q (⟨some d, .pick c x y, ty, pos, aft, g⟩ :: rest) n ds w0 env M H :=
  VL_v hw hl (fun a w hr hs => by simp [execOp, hr.ev hx, hr.ev hc, asBool]) h
theorem VL_pick_f {c : Operand} {v : Value} (hw : Wanted ops env g) (hc : evo env c = some (.bool false)) (hy : evo env y = some v) (hl : Nat.blt d n = true)
    (h : VL P ops Q rest n ds w0 ((d, v) :: env) M H) : VL P ops Q (⟨some d, .pick c x y, ty, pos, aft, g⟩ :: rest) n ds w0 env M H :=
  VL_v hw hl (fun a w hr hs => by simp [execOp, hr.ev hy, hr.ev hc, asBool]) h
theorem VL_extract {k : Nat} {vs : List Value} {v : Value} (hw : Wanted ops env g) (hx : evo env x = some (.tuple vs.toArray)) (hv : vs[k]? = some v) (hl : Nat.blt d n = true)
    (h : VL P ops Q rest n ds w0 ((d, v) :: env) M H) : VL P ops Q (⟨some d, .extract x k, ty, pos, aft, g⟩ :: rest) n ds w0 env M H :=
  VL_v hw hl (fun a w hr hs => by simp [execOp, hr.ev hx, Instr.extract, hv]) h
theorem VL_nilCheck {ad : Addr} (hw : Wanted ops env g) (hx : evo env x = some (.pointer (some ad))) (hl : Nat.blt d n = true)
    (h : VL P ops Q rest n ds w0 ((d, .pointer (some ad)) :: env) M H) : VL P ops Q (⟨some d, .nilCheck x, ty, pos, aft, g⟩ :: rest) n ds w0 env M H :=
  VL_v hw hl (fun a w hr hs => by simp [execOp, hr.ev hx]) h

/-! ### numbers -/
/-- what a binary operation on two whole numbers gives (no division by zero, no negative shift) -/
def binRes (op : BinOp) (k : IntKind) (a : Int) (yk : IntKind) (b : Int) : Option Value :=
  match op with
  | .shl => if b < 0 then none else some (.int k (k.wrap (a * 2 ^ (min b.toNat k.bits))))
  | .shr => if b < 0 then none else some (.int k (a.fdiv (2 ^ (min b.toNat k.bits))))
  | .add => if k = yk then some (.int k (k.wrap (a + b))) else none
  | .sub => if k = yk then some (.int k (k.wrap (a - b))) else none
  | .mul => if k = yk then some (.int k (k.wrap (a * b))) else none
  | .quo => if k = yk ∧ b ≠ 0 then some (.int k (k.wrap (a.tdiv b))) else none
  | .rem => if k = yk ∧ b ≠ 0 then some (.int k (a.tmod b)) else none
  | .and => if k = yk then some (.int k (k.wrap (BitVec.ofInt k.bits a &&& BitVec.ofInt k.bits b).toNat)) else none
  | .or => if k = yk then some (.int k (k.wrap (BitVec.ofInt k.bits a ||| BitVec.ofInt k.bits b).toNat)) else none
  | .xor => if k = yk then some (.int k (k.wrap (BitVec.ofInt k.bits a ^^^ BitVec.ofInt k.bits b).toNat)) else none
  | .andNot => if k = yk then some (.int k (k.wrap (BitVec.ofInt k.bits a &&& ~~~ BitVec.ofInt k.bits b).toNat)) else none
  | .eql => if k = yk then some (.bool (a == b)) else none
  | .neq => if k = yk then some (.bool (a != b)) else none
  | .lss => if k = yk then some (.bool (decide (a < b))) else none
  | .leq => if k = yk then some (.bool (decide (a ≤ b))) else none
  | .gtr => if k = yk then some (.bool (decide (a > b))) else none
  | .geq => if k = yk then some (.bool (decide (a ≥ b))) else none
theorem run_bin {op : BinOp} {k yk : IntKind} {a b : Int} {v : Value} (hv : binRes op k a yk b = some v) (t : Nat) (w : World) : (binOp op t (.int k a) (.int yk b)).run P w = .ok v w := by
  cases op <;> simp only [binRes] at hv <;> (try (split at hv <;> simp at hv)) <;> (try simp at hv) <;> (try subst hv) <;>
    (try simp_all [binOp, Op.shift, Op.intArith, Op.intDiv, Op.intBits, Op.intCmp]) <;> (intro h; exfalso; omega)
theorem VL_bin {op : BinOp} {k yk : IntKind} {a b : Int} {v : Value} {xt yt : Nat} (hw : Wanted ops env g) (hx : evo env x = some (.int k a)) (hy : evo env y = some (.int yk b))
    (hv : binRes op k a yk b = some v) (hl : Nat.blt d n = true)
    (h : VL P ops Q rest n ds w0 ((d, v) :: env) M H) : VL P ops Q (⟨some d, .binOp op xt x y yt, ty, pos, aft, g⟩ :: rest) n ds w0 env M H :=
  VL_v hw hl (fun a w hr hs => by
    simp only [execOp, hr.ev hx, hr.ev hy, Sem.run_bind, Sem.run_pure, eqGuard]
    split <;> simp [run_bin hv]) h
end
end Go.Proofs.YtpboahlpgfglkaaDoor.X
