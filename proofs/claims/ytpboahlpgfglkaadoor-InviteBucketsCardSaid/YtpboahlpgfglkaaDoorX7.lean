/-
  Own library, part 7: regions that draw their order.
-/
import Derived.Test.YtpboahlpgfglkaaDoorX6
import Derived.OrdersHeld
import Derived.Still
namespace Go.Proofs.YtpboahlpgfglkaaDoor.X
open Go Go.RowKit
set_option linter.unusedVariables false
set_option linter.unusedSimpArgs false

/-- what an operation yields, that leaves memory alone -/
def Yv (P : Program) (n : Nat) (ds : List Deferred) (w0 : World) (env : Env) (M : Mem) (H : List Ent) (o : Oper) (v : Value) : Prop :=
  ∀ a w, Rep n ds env a → St w0 M H w → (execOp a.eval o).run P w = .ok (.value v) w

section
variable {P : Program} {n : Nat} {ds : List Deferred} {w0 : World} {env env' : Env} {M M' : Mem} {H H' : List Ent}
  {d ty : Nat} {pos : String} {aft : Array Edge} {g : Option (Nat × Bool)} {x y : Operand}
theorem Y_move {v : Value} (hx : evo env x = some v)  :
    Yv P n ds w0 env M H ⟨some d, .move x, ty, pos, aft, g⟩ (v) := fun a w hr hs => by
  have q : (execOp a.eval ⟨some d, .move x, ty, pos, aft, g⟩).run P w = .ok (.value (v)) w := by simp [execOp, hr.ev hx]
  exact q
theorem Y_assign {v : Value} (hx : evo env x = some v)  :
    Yv P n ds w0 env M H ⟨some d, .assign x, ty, pos, aft, g⟩ (v) := fun a w hr hs => by
  have q : (execOp a.eval ⟨some d, .assign x, ty, pos, aft, g⟩).run P w = .ok (.value (v)) w := by simp [execOp, hr.ev hx]
  exact q
theorem Y_pick_t {c : Operand} {v : Value} (hc : evo env c = some (.bool true)) (hx : evo env x = some v)  :
    Yv P n ds w0 env M H ⟨some d, .pick c x y, ty, pos, aft, g⟩ (v) := fun a w hr hs => by
  have q : (execOp a.eval ⟨some d, .pick c x y, ty, pos, aft, g⟩).run P w = .ok (.value (v)) w := by simp [execOp, hr.ev hx, hr.ev hc, asBool]
  exact q
theorem Y_pick_f {c : Operand} {v : Value} (hc : evo env c = some (.bool false)) (hy : evo env y = some v)  :
    Yv P n ds w0 env M H ⟨some d, .pick c x y, ty, pos, aft, g⟩ (v) := fun a w hr hs => by
  have q : (execOp a.eval ⟨some d, .pick c x y, ty, pos, aft, g⟩).run P w = .ok (.value (v)) w := by simp [execOp, hr.ev hy, hr.ev hc, asBool]
  exact q
theorem Y_extract {k : Nat} {vs : List Value} {v : Value} (hx : evo env x = some (.tuple vs.toArray)) (hv : vs[k]? = some v)  :
    Yv P n ds w0 env M H ⟨some d, .extract x k, ty, pos, aft, g⟩ (v) := fun a w hr hs => by
  have q : (execOp a.eval ⟨some d, .extract x k, ty, pos, aft, g⟩).run P w = .ok (.value (v)) w := by simp [execOp, hr.ev hx, Instr.extract, hv]
  exact q
theorem Y_nilCheck {ad : Addr} (hx : evo env x = some (.pointer (some ad)))  :
    Yv P n ds w0 env M H ⟨some d, .nilCheck x, ty, pos, aft, g⟩ (.pointer (some ad)) := fun a w hr hs => by
  have q : (execOp a.eval ⟨some d, .nilCheck x, ty, pos, aft, g⟩).run P w = .ok (.value (.pointer (some ad))) w := by simp [execOp, hr.ev hx]
  exact q
theorem Y_bin {op : BinOp} {k yk : IntKind} {a b : Int} {v : Value} {xt yt : Nat} (hx : evo env x = some (.int k a)) (hy : evo env y = some (.int yk b)) (hv : binRes op k a yk b = some v)  :
    Yv P n ds w0 env M H ⟨some d, .binOp op xt x y yt, ty, pos, aft, g⟩ (v) := fun a w hr hs => by
  have q : (execOp a.eval ⟨some d, .binOp op xt x y yt, ty, pos, aft, g⟩).run P w = .ok (.value (v)) w := by
    simp only [execOp, hr.ev hx, hr.ev hy, Sem.run_bind, Sem.run_pure, eqGuard]
    split <;> simp [run_bin hv]
  exact q
theorem Y_load {t : Nat} {dd : TypeDesc} {z v : Value} {sz by_ : Nat} {ad : Addr} [TI P t dd z sz by_] (hd : dd.isRow = false) (hx : evo env x = some (.pointer (some ad))) (hc : ∀ w, St w0 M H w → w.cell? ad = some v)  :
    Yv P n ds w0 env M H ⟨some d, .load t x, ty, pos, aft, g⟩ (v) := fun a w hr hs => by
  have q : (execOp a.eval ⟨some d, .load t x, ty, pos, aft, g⟩).run P w = .ok (.value (v)) w := by simp [execOp, Instr.loadAt, Instr.sureAddr, hr.ev hx, loadVar, TI.r_agg, hd, hc w hs]
  exact q
theorem Y_loadA {t : Nat} {dd : TypeDesc} {z : Value} {sz by_ b off : Nat} {cs : List Value} [TI P t dd z sz by_] (hd : dd.isRow = true) (hx : evo env x = some (.pointer (some ⟨b, off, none⟩))) (hn : cs.length = sz) (hc : ∀ w, St w0 M H w → At w b off cs)  :
    Yv P n ds w0 env M H ⟨some d, .load t x, ty, pos, aft, g⟩ (.agg cs.toArray) := fun a w hr hs => by
  have q : (execOp a.eval ⟨some d, .load t x, ty, pos, aft, g⟩).run P w = .ok (.value (.agg cs.toArray)) w := by
    have := run_loadCells_list (P := P) w ⟨b, off, none⟩ cs (fun j v hj => by rw [add_norm]; exact hc w hs j v hj)
    subst hn
    simp [execOp, Instr.loadAt, Instr.sureAddr, hr.ev hx, loadVar, TI.r_agg, hd, TI.r_size, this]
  exact q
theorem Y_fieldAddr {t k b off o : Nat} [FA P t k o] (hx : evo env x = some (.pointer (some ⟨b, off, none⟩)))  :
    Yv P n ds w0 env M H ⟨some d, .fieldAddr t x k, ty, pos, aft, g⟩ (.pointer (some ⟨b, off + o, none⟩)) := fun a w hr hs => by
  have q : (execOp a.eval ⟨some d, .fieldAddr t x k, ty, pos, aft, g⟩).run P w = .ok (.value (.pointer (some ⟨b, off + o, none⟩))) w := by
    simp only [execOp, hr.ev hx, Sem.run_bind, FA.r_field, Result.andThen_ok, Sem.run_pure]
  exact q
theorem Y_indexAddr_slice {t e : Nat} {z ze : Value} {sz by_ sze bye len cap : Nat} {de : TypeDesc} {A : Option Addr} {ik : IntKind} {i : Int} {i' : Nat} [TI P t (.slice e) z sz by_] [hT : TI P e de ze sze bye] (hx : evo env x = some (.slice A len cap)) (hy : evo env y = some (.int ik i)) (hi : i = (i' : Int)) (hb : i' < len) (hA : Safe A)  :
    Yv P n ds w0 env M H ⟨some d, .indexAddr t x y, ty, pos, aft, g⟩ (.pointer (some (adr A (i' * sze)))) := fun a w hr hs => by
  have q : (execOp a.eval ⟨some d, .indexAddr t x y, ty, pos, aft, g⟩).run P w = .ok (.value (.pointer (some (adr A (i' * sze))))) w := by
    obtain ⟨b, off, rfl⟩ := hA
    subst hi
    simp [execOp, Instr.indexAt, hr.ev hx, hr.ev hy, asIntOf, TI.r_und (P := P) (t := t), hb, hT.r_size, add_norm, adr]
  exact q
theorem Y_indexAddr_array {t e len : Nat} {z ze : Value} {sz by_ sze bye b off : Nat} {de : TypeDesc} {ik : IntKind} {i : Int} {i' : Nat} [TI P t (.array len e) z sz by_] [hT : TI P e de ze sze bye] (hx : evo env x = some (.pointer (some ⟨b, off, none⟩))) (hy : evo env y = some (.int ik i)) (hi : i = (i' : Int)) (hb : i' < len)  :
    Yv P n ds w0 env M H ⟨some d, .indexAddr t x y, ty, pos, aft, g⟩ (.pointer (some ⟨b, off + i' * sze, none⟩)) := fun a w hr hs => by
  have q : (execOp a.eval ⟨some d, .indexAddr t x y, ty, pos, aft, g⟩).run P w = .ok (.value (.pointer (some ⟨b, off + i' * sze, none⟩))) w := by
    subst hi
    simp [execOp, Instr.indexAt, Instr.sureAddr, hr.ev hx, hr.ev hy, asIntOf, TI.r_und (P := P) (t := t), hb, hT.r_size, add_norm]
  exact q
theorem Y_indexAddr_slice1 {t e : Nat} {z ze : Value} {sz by_ bye len cap : Nat} {de : TypeDesc} {A : Option Addr} {ik : IntKind} {i : Int} {i' : Nat} [TI P t (.slice e) z sz by_] [hT : TI P e de ze 1 bye] (hx : evo env x = some (.slice A len cap)) (hy : evo env y = some (.int ik i)) (hi : i = (i' : Int)) (hb : i' < len) (hA : Safe A)  :
    Yv P n ds w0 env M H ⟨some d, .indexAddr t x y, ty, pos, aft, g⟩ (.pointer (some (adr A i'))) := fun a w hr hs => by
  have q : (execOp a.eval ⟨some d, .indexAddr t x y, ty, pos, aft, g⟩).run P w = .ok (.value (.pointer (some (adr A i')))) w := by
    obtain ⟨b, off, rfl⟩ := hA
    subst hi
    simp [execOp, Instr.indexAt, hr.ev hx, hr.ev hy, asIntOf, TI.r_und (P := P) (t := t), hb, hT.r_size, add_norm, adr]
  exact q
theorem Y_indexAddr_array1 {t e len : Nat} {z ze : Value} {sz by_ bye b off : Nat} {de : TypeDesc} {ik : IntKind} {i : Int} {i' : Nat} [TI P t (.array len e) z sz by_] [hT : TI P e de ze 1 bye] (hx : evo env x = some (.pointer (some ⟨b, off, none⟩))) (hy : evo env y = some (.int ik i)) (hi : i = (i' : Int)) (hb : i' < len)  :
    Yv P n ds w0 env M H ⟨some d, .indexAddr t x y, ty, pos, aft, g⟩ (.pointer (some ⟨b, off + i', none⟩)) := fun a w hr hs => by
  have q : (execOp a.eval ⟨some d, .indexAddr t x y, ty, pos, aft, g⟩).run P w = .ok (.value (.pointer (some ⟨b, off + i', none⟩))) w := by
    subst hi
    simp [execOp, Instr.indexAt, Instr.sureAddr, hr.ev hx, hr.ev hy, asIntOf, TI.r_und (P := P) (t := t), hb, hT.r_size, add_norm]
  exact q
theorem Y_len_slice {t e : Nat} {z : Value} {sz by_ len cap : Nat} {A : Option Addr} [TI P t (.slice e) z sz by_] (hx : evo env x = some (.slice A len cap))  :
    Yv P n ds w0 env M H ⟨some d, .call { callee := .builtin .len, args := #[x], argTypes := #[t] }, ty, pos, aft, g⟩ (.int .i64 (len : Int)) := fun a w hr hs => by
  have q : (execOp a.eval ⟨some d, .call { callee := .builtin .len, args := #[x], argTypes := #[t] }, ty, pos, aft, g⟩).run P w = .ok (.value (.int .i64 (len : Int))) w := by simp [execOp, resolve, invoke, builtin, Builtin.len_, hr.ev hx, TI.r_und, goInt]
  exact q
theorem Y_len_string {t : Nat} {z : Value} {sz by_ : Nat} {s : ByteArray} [TI P t .string z sz by_] (hx : evo env x = some (.string s))  :
    Yv P n ds w0 env M H ⟨some d, .call { callee := .builtin .len, args := #[x], argTypes := #[t] }, ty, pos, aft, g⟩ (.int .i64 (s.size : Int)) := fun a w hr hs => by
  have q : (execOp a.eval ⟨some d, .call { callee := .builtin .len, args := #[x], argTypes := #[t] }, ty, pos, aft, g⟩).run P w = .ok (.value (.int .i64 (s.size : Int))) w := by simp [execOp, resolve, invoke, builtin, Builtin.len_, hr.ev hx, TI.r_und, goInt]
  exact q
theorem Y_slice_hi {t e : Nat} {z ze : Value} {sz by_ sze bye len cap : Nat} {de : TypeDesc} {A : Option Addr} {hi : Operand} {k : IntKind} {i : Int} {i' : Nat} [hT : TI P t (.slice e) z sz by_] [hE : TI P e de ze sze bye] (hx : evo env x = some (.slice A len cap)) (hh : evo env hi = some (.int k i)) (hi' : i = (i' : Int)) (hb : i' ≤ cap) (hA : ∀ a, A = some a → a.spot = none)  :
    Yv P n ds w0 env M H ⟨some d, .slice t x none (some hi) none, ty, pos, aft, g⟩ (.slice A i' cap) := fun a w hr hs => by
  have q : (execOp a.eval ⟨some d, .slice t x none (some hi) none, ty, pos, aft, g⟩).run P w = .ok (.value (.slice A i' cap)) w := by
    subst hi'
    have e1 : (A.map fun a => a.add (0 * sze)) = A := by
      cases A with
      | none => rfl
      | some a => simp [Addr.add]
    simp only [Nat.zero_mul] at e1
    simp [execOp, Instr.sliceAt, Instr.slice, Instr.sliceBounds, hr.ev hx, hr.ev hh, hT.r_und, run_bound _ hb, hE.r_size, e1]
  exact q
theorem Y_slice_himax {t e : Nat} {z ze : Value} {sz by_ sze bye len cap : Nat} {de : TypeDesc} {A : Option Addr} {hi mx : Operand} {k k2 : IntKind} {i j : Int} {i' j' : Nat} [hT : TI P t (.slice e) z sz by_] [hE : TI P e de ze sze bye] (hx : evo env x = some (.slice A len cap)) (hh : evo env hi = some (.int k i)) (hh2 : evo env mx = some (.int k2 j)) (hi' : i = (i' : Int)) (hj' : j = (j' : Int)) (hb : i' ≤ j') (hb2 : j' ≤ cap)  :
    Yv P n ds w0 env M H ⟨some d, .slice t x none (some hi) (some mx), ty, pos, aft, g⟩ (.slice A i' j') := fun a w hr hs => by
  have q : (execOp a.eval ⟨some d, .slice t x none (some hi) (some mx), ty, pos, aft, g⟩).run P w = .ok (.value (.slice A i' j')) w := by
    subst hi' hj'
    have e1 : (A.map fun a => a.add 0) = A := by
      cases A with
      | none => rfl
      | some a => simp [Addr.add]
    simp [execOp, Instr.sliceAt, Instr.slice, Instr.sliceBounds, hr.ev hx, hr.ev hh, hr.ev hh2, hT.r_und, run_bound _ hb, run_bound _ hb2, hE.r_size, e1]
  exact q
theorem Y_build {t : Nat} {ps : List (Nat × Operand)} {vs : List (Nat × Value)} {v : Value} (hx : evps env ps = some vs) (hrun : ∀ w, (Instr.build t vs.toArray).run P w = .ok v w)  :
    Yv P n ds w0 env M H ⟨some d, .build t ps.toArray, ty, pos, aft, g⟩ (v) := fun a w hr hs => by
  have q : (execOp a.eval ⟨some d, .build t ps.toArray, ty, pos, aft, g⟩).run P w = .ok (.value (v)) w := by
    have h2 := hr.evps hx
    have h3 : (ps.toArray.map fun p => (p.1, a.eval p.2)) = vs.toArray := by simpa using h2
    simp only [execOp, h3, Sem.run_bind, hrun, Result.andThen_ok, Sem.run_pure]
  exact q
theorem Y_convert {s t : Nat} {k k' : IntKind} {i r : Int} {z zs : Value} {sz by_ szs bys : Nat} {dsrc : TypeDesc} [hS : TI P s dsrc zs szs bys] [hT : TI P t (.int k') z sz by_] (hx : evo env x = some (.int k i)) (hv : k'.wrap i = r)  :
    Yv P n ds w0 env M H ⟨some d, .convert s t x, ty, pos, aft, g⟩ (.int k' r) := fun a w hr hs => by
  have q : (execOp a.eval ⟨some d, .convert s t x, ty, pos, aft, g⟩).run P w = .ok (.value (.int k' r)) w := by
    subst hv
    simp only [execOp, convert, Sem.run_bind, hS.r_und, hT.r_und, Result.andThen_ok, hr.ev hx]
    cases dsrc <;> simp [Conv.intToInt]
  exact q
theorem Y_not {t : Nat} {b : Bool} (hx : evo env x = some (.bool b))  :
    Yv P n ds w0 env M H ⟨some d, .unOp .not t x, ty, pos, aft, g⟩ (.bool (!b)) := fun a w hr hs => by
  have q : (execOp a.eval ⟨some d, .unOp .not t x, ty, pos, aft, g⟩).run P w = .ok (.value (.bool (!b))) w := by simp [execOp, Op.unary, hr.ev hx]
  exact q
theorem Y_not_d {t : Nat} {p : Prop} {inst : Decidable p} (hx : evo env x = some (.bool (decide p)))  :
    Yv P n ds w0 env M H ⟨some d, .unOp .not t x, ty, pos, aft, g⟩ (.bool (decide (¬ p))) := fun a w hr hs => by
  have q : (execOp a.eval ⟨some d, .unOp .not t x, ty, pos, aft, g⟩).run P w = .ok (.value (.bool (decide (¬ p)))) w := by simp [execOp, Op.unary, hr.ev hx]
  exact q
theorem Y_neg {t : Nat} {k : IntKind} {i r : Int} (hx : evo env x = some (.int k i)) (hv : k.wrap (0 - i) = r)  :
    Yv P n ds w0 env M H ⟨some d, .unOp .neg t x, ty, pos, aft, g⟩ (.int k r) := fun a w hr hs => by
  have q : (execOp a.eval ⟨some d, .unOp .neg t x, ty, pos, aft, g⟩).run P w = .ok (.value (.int k r)) w := by subst hv; simp [execOp, Op.unary, Op.intArith, hr.ev hx]
  exact q
theorem Y_xor {t : Nat} {k : IntKind} {i : Int} {v : Value} (hx : evo env x = some (.int k i)) (hv : binRes .xor k (if k.signed then -1 else k.max) k i = some v)  :
    Yv P n ds w0 env M H ⟨some d, .unOp .xor t x, ty, pos, aft, g⟩ (v) := fun a w hr hs => by
  have q : (execOp a.eval ⟨some d, .unOp .xor t x, ty, pos, aft, g⟩).run P w = .ok (.value (v)) w := by
    simp [binRes] at hv
    subst hv
    simp [execOp, Op.unary, Op.intBits, hr.ev hx]
  exact q
theorem Y_min {t1 : Array Nat} {k k2 : IntKind} {i j : Int} (hx : evo env x = some (.int k i)) (hy : evo env y = some (.int k2 j))  :
    Yv P n ds w0 env M H ⟨some d, .call { callee := .builtin .min, args := #[x, y], argTypes := t1 }, ty, pos, aft, g⟩ (.int k (if j < i then j else i)) := fun a w hr hs => by
  have q : (execOp a.eval ⟨some d, .call { callee := .builtin .min, args := #[x, y], argTypes := t1 }, ty, pos, aft, g⟩).run P w = .ok (.value (.int k (if j < i then j else i))) w := by simp [execOp, resolve, invoke, builtin, Builtin.min_, Builtin.min2, hr.ev hx, hr.ev hy]
  exact q
theorem Y_max {t1 : Array Nat} {k k2 : IntKind} {i j : Int} (hx : evo env x = some (.int k i)) (hy : evo env y = some (.int k2 j))  :
    Yv P n ds w0 env M H ⟨some d, .call { callee := .builtin .max, args := #[x, y], argTypes := t1 }, ty, pos, aft, g⟩ (.int k (if i < j then j else i)) := fun a w hr hs => by
  have q : (execOp a.eval ⟨some d, .call { callee := .builtin .max, args := #[x, y], argTypes := t1 }, ty, pos, aft, g⟩).run P w = .ok (.value (.int k (if i < j then j else i))) w := by simp [execOp, resolve, invoke, builtin, Builtin.max_, Builtin.max2, hr.ev hx, hr.ev hy]
  exact q
theorem Y_eqNil {t e : Nat} {z : Value} {sz by_ : Nat} {p : Option Addr} [hT : TI P t (.pointer e) z sz by_] (hx : evo env x = some (.pointer p)) (hy : evo env y = some (.pointer none)) {yt : Nat} :
    Yv P n ds w0 env M H ⟨some d, .binOp .eql t x y yt, ty, pos, aft, g⟩ (.bool p.isNone) := fun a w hr hs => by
  have q : (execOp a.eval ⟨some d, .binOp .eql t x y yt, ty, pos, aft, g⟩).run P w = .ok (.value (.bool p.isNone)) w := by
    have key : (Op.equal t (.pointer p) (.pointer none)).run P w = .ok p.isNone w := by
      show (Op.equalIn (9999 + 1) t (.pointer p) (.pointer none)).run P w = _
      rw [Op.equalIn, Sem.run_bind, hT.r_und]
      cases p <;> rfl
    cases p <;> simp only [execOp, hr.ev hx, hr.ev hy, eqGuard, binOp, key, Sem.run_bind, Sem.run_pure, Result.andThen_ok] <;> simp <;> (rw [key]; rfl)
  exact q
theorem Y_makeIface {t : Nat} {v z : Value} {sz by_ : Nat} {dd : TypeDesc} [hT : TI P t dd z sz by_] (hd : (match dd with | .interface _ => true | _ => false) = false) (hx : evo env x = some v)  :
    Yv P n ds w0 env M H ⟨some d, .makeInterface t x, ty, pos, aft, g⟩ (.iface t v) := fun a w hr hs => by
  have q : (execOp a.eval ⟨some d, .makeInterface t x, ty, pos, aft, g⟩).run P w = .ok (.value (.iface t v)) w := by
    simp only [execOp, Instr.makeInterface, Sem.run_bind, hT.r_und, Result.andThen_ok, hr.ev hx]
    cases dd <;> simp_all
  exact q
theorem Y_assert_t {xt t : Nat} {v z : Value} {sz by_ : Nat} {dd : TypeDesc} [hT : TI P t dd z sz by_] (hd : (match dd with | .interface _ => true | _ => false) = false) (hx : evo env x = some (.iface t v))  :
    Yv P n ds w0 env M H ⟨some d, .typeAssert x xt t true, ty, pos, aft, g⟩ (.tuple #[v, .bool true]) := fun a w hr hs => by
  have q : (execOp a.eval ⟨some d, .typeAssert x xt t true, ty, pos, aft, g⟩).run P w = .ok (.value (.tuple #[v, .bool true])) w := by
    simp only [execOp, Instr.typeAssert, Sem.run_bind, hT.r_und, Result.andThen_ok, hr.ev hx]
    cases dd <;> simp_all
  exact q
theorem Y_assert_f {xt t t' : Nat} {v z : Value} {sz by_ : Nat} {dd : TypeDesc} [hT : TI P t dd z sz by_] (hd : (match dd with | .interface _ => true | _ => false) = false) (hx : evo env x = some (.iface t' v)) (hne : Nat.beq t' t = false)  :
    Yv P n ds w0 env M H ⟨some d, .typeAssert x xt t true, ty, pos, aft, g⟩ (.tuple #[z, .bool false]) := fun a w hr hs => by
  have q : (execOp a.eval ⟨some d, .typeAssert x xt t true, ty, pos, aft, g⟩).run P w = .ok (.value (.tuple #[z, .bool false])) w := by
    have hne' : ¬ (t' = t) := fun e => by subst e; simp at hne
    simp only [execOp, Instr.typeAssert, Sem.run_bind, hT.r_und, Result.andThen_ok, hr.ev hx]
    cases dd <;> simp_all [hT.r_zero]
  exact q
theorem Y_index_string {t : Nat} {z : Value} {sz by_ : Nat} {s : ByteArray} {k : IntKind} {i : Int} {i' : Nat} {c : UInt8} [hT : TI P t .string z sz by_] (hx : evo env x = some (.string s)) (hy : evo env y = some (.int k i)) (hi : i = (i' : Int)) (hc : s[i']? = some c)  :
    Yv P n ds w0 env M H ⟨some d, .index t x y, ty, pos, aft, g⟩ (.int .u8 (c.toNat : Int)) := fun a w hr hs => by
  have q : (execOp a.eval ⟨some d, .index t x y, ty, pos, aft, g⟩).run P w = .ok (.value (.int .u8 (c.toNat : Int))) w := by
    subst hi
    simp only [execOp, Instr.index, Sem.run_bind, hT.r_und, Result.andThen_ok, hr.ev hx, hr.ev hy, asIntOf, Sem.run_pure]
    simp [hc]
  exact q

theorem Y_slice_lo {t e : Nat} {z ze : Value} {sz by_ sze bye len cap : Nat} {de : TypeDesc} {A : Option Addr} {lo : Operand} {k : IntKind} {i : Int} {i' : Nat} [hT : TI P t (.slice e) z sz by_] [hE : TI P e de ze sze bye]
    (hx : evo env x = some (.slice A len cap)) (hh : evo env lo = some (.int k i)) (hi' : i = (i' : Int)) (hb : i' ≤ len) :
    ∃ A', Sub A A' (i' * sze) (cap - i') ∧ Yv P n ds w0 env M H ⟨some d, .slice t x (some lo) none none, ty, pos, aft, g⟩ (.slice A' (len - i') (cap - i')) :=
  ⟨_, sub_mk rfl, fun a w hr hs => by
    subst hi'
    simp [execOp, Instr.sliceAt, Instr.slice, Instr.sliceBounds, hr.ev hx, hr.ev hh, hT.r_und, run_bound _ hb, hE.r_size]⟩
end

section
variable {P : Program} {ops : List Oper} {Q : Exit → Act → World → Prop} {n : Nat} {ds : List Deferred} {w0 : World} {env env' : Env} {M M' : Mem} {H H' : List Ent} {S : World → Prop}

/-- a region that draws its order, in which values alone are made: in the text's order -/
structure VS (P : Program) (ops : List Oper) (Q : Exit → Act → World → Prop) (l : List Oper) (n : Nat) (ds : List Deferred) (w0 : World) (env : Env) (M : Mem) (H : List Ent) : Prop where
  go : ∀ a w, Rep n ds env a → St w0 M H w → wpStill P ops.toArray w (fun a' => Q .normal a' w) l a
theorem VC_still {id : Nat} (hm : P.follows .mixedOrders = true) (hB : Region.lexB .any ops.toArray = true) (h : VS P ops Q ops n ds w0 env M H) : VC P (.region id ops.toArray true) Q n ds w0 env M H :=
  ⟨fun a w hr hs => wp_region_still_lit hm hB (h.go a _ hr (hs.drew _))⟩
theorem VS_nil (h : VE Q .normal n ds w0 env M H) : VS P ops Q [] n ds w0 env M H := ⟨fun a w hr hs => h a w hr hs⟩
theorem VS_y {l : List Oper} {o : Oper} {d : Nat} {v : Value} (hw : Wanted ops env o.guard) (hy : Yv P n ds w0 env M H o v) (hd : o.dst = some d) (hl : Nat.blt d n = true)
    (h : VS P ops Q l n ds w0 ((d, v) :: env) M H) : VS P ops Q (o :: l) n ds w0 env M H := ⟨fun a w hr hs => by
  unfold wpStill
  rw [if_pos (hw.true_ hr rfl)]
  unfold Oper.still
  rw [hy a w hr hs, Oper.stillUpon_value, hd]
  exact h.go _ _ (hr.put hl) hs⟩
theorem VS_out {l : List Oper} {op : Op} {d ty j t : Nat} {pos : String} {aft : Array Edge} {want : Bool} (hj : (ops[j]?).bind (·.dst) = some t) (hv : look env t = some (.bool (!want))) (hl : Nat.blt d n = true)
    (h : VS P ops Q l n ds w0 ((d, undef) :: env) M H) : VS P ops Q (⟨some d, op, ty, pos, aft, some (j, want)⟩ :: l) n ds w0 env M H := ⟨fun a w hr hs => by
  have h3 := hr.at_ _ _ hv
  unfold wpStill
  rw [if_neg (by simp [Region.wanted, yielded, hj, h3])]
  exact h.go _ _ (hr.put hl) hs⟩

/-- the rest of a region that draws its order: which operations have come up -/
structure VA (P : Program) (ops : List Oper) (Q : Exit → Act → World → Prop) (S : World → Prop) (fuel : Nat) (listed : Array Bool) (n : Nat) (ds : List Deferred) (w0 : World) (env : Env) (M : Mem) (H : List Ent) : Prop where
  go : ∀ a w, Rep n ds env a → St w0 M H w → S w → wpAnyH P .any ops.toArray Q S fuel listed a w

theorem VC_draw {id : Nat} (S : World → Prop) (hm : P.follows .mixedOrders = true) (hS : ∀ w, St w0 M H w → S w)
    (h : VA P ops Q S ops.length (List.replicate ops.length false).toArray n ds w0 env M H) : VC P (.region id ops.toArray true) Q n ds w0 env M H := by
  refine ⟨fun a w hr hs => ?_⟩
  have hs' := hs.drew (w.drawn + 1)
  have := h.go a _ hr hs' (hS _ hs')
  exact wp_region_held (S := S) hm (by simpa using this)
/-- the draw of a region in which nothing is made but values: all in the text's order -/
theorem VA_take {fuel : Nat} {listed : Array Bool} (i : Nat) {d : Nat} {o : Oper} {v : Value} (hi : ops[i]? = some o) (hd : o.dst = some d) (hs : Region.noSelect ops.toArray = true) (hf : Region.free .any ops.toArray listed i = true)
    (hr : (Region.ready .any ops.toArray listed).contains i = true) (hQ : ∀ c a w, Q (.panic c) (a.put (some d) v) w → Q (.panic c) a w)
    (hw : Wanted ops env o.guard) (hS : ∀ w, S w → ∃ H', St w0 M H' w ∧ Yv P n ds w0 env M H' o v) (hl : Nat.blt d n = true)
    (h : VA P ops Q S fuel (listed.setIfInBounds i true) n ds w0 ((d, v) :: env) M H) : VA P ops Q S (fuel + 1) listed n ds w0 env M H := by
  refine ⟨fun a w hra hsa hSw => ?_⟩
  refine wpAnyH_take (v := v) (i := i) (by simpa using hi) hs hf hr (by rw [hd]; exact hQ) (.inl ⟨hw.true_ hra rfl, fun w' hw' => ?_⟩) hSw ?_
  · obtain ⟨H', h1, h2⟩ := hS w' hw'
    exact h2 a w' hra h1
  · rw [hd]; exact h.go _ _ (hra.put hl) hsa hSw
/-- an operation that the guard leaves out -/
theorem VA_takeOut {fuel : Nat} {listed : Array Bool} (i : Nat) {d g t : Nat} {want : Bool} {o : Oper} (hi : ops[i]? = some o) (hd : o.dst = some d) (hs : Region.noSelect ops.toArray = true) (hf : Region.free .any ops.toArray listed i = true)
    (hr : (Region.ready .any ops.toArray listed).contains i = true) (hQ : ∀ c a w, Q (.panic c) (a.put (some d) undef) w → Q (.panic c) a w)
    (hg : o.guard = some (g, want)) (hj : (ops[g]?).bind (·.dst) = some t) (hv : look env t = some (.bool (!want))) (hl : Nat.blt d n = true)
    (h : VA P ops Q S fuel (listed.setIfInBounds i true) n ds w0 ((d, undef) :: env) M H) : VA P ops Q S (fuel + 1) listed n ds w0 env M H := by
  refine ⟨fun a w hra hsa hSw => ?_⟩
  have h3 := hra.at_ _ _ hv
  refine wpAnyH_take (v := undef) (i := i) (by simpa using hi) hs hf hr (by rw [hd]; exact hQ) (.inr ⟨?_, rfl⟩) hSw ?_
  · simp [Region.wanted, hg, yielded, hj, h3]
  · rw [hd]; exact h.go _ _ (hra.put hl) hsa hSw
/-- the one that may come up now, of whatever kind, by its rule in a list of its own -/
theorem VA_step {fuel : Nat} {listed : Array Bool} (i : Nat) {o : Oper} (hi : ops[i]? = some o) (hr : Region.ready .any ops.toArray listed = [i])
    (h : VL P ops (fun e a w => match e with | .normal => S w ∧ wpAnyH P .any ops.toArray Q S fuel (listed.setIfInBounds i true) a w | e => Q e a w) [o] n ds w0 env M H) : VA P ops Q S (fuel + 1) listed n ds w0 env M H := by
  refine ⟨fun a w hra hsa hSw => ?_⟩
  refine wpAnyH_all hr (by simp) (fun j hj => ?_)
  simp at hj
  subst hj
  have := h a w hra hsa
  unfold wpList at this
  unfold wpOp
  simp only [List.getElem?_toArray, hi]
  split at this
  · rename_i hw
    rw [if_pos hw]
    rcases this with this | ⟨h1, a1, w1, h2⟩
    · refine .inl ?_
      unfold Oper.wp at *
      generalize (execOp a.eval o).run P w = r at *
      cases r with
      | ok v w' =>
        cases v <;> simp only [Oper.upon] at this ⊢
        case value => exact this
        case skip => exact this
        case defer => exact this
        case enter f args =>
          refine this.mono fun e w'' he => ?_
          cases e with
          | returned u => exact he
          | panicked c => exact he
          | outgrown => obtain ⟨a1, w1, h2⟩ := he; exact ⟨a1, w1, h2⟩
        case row r args => exact Rows.mono this fun u w'' he => he
      | halt x w' =>
        cases x <;> simp only [Oper.upon] at this ⊢
        case panic u => exact this
    · exact .inr ⟨h1, a1, w1, h2⟩
  · rename_i hw
    rw [if_neg hw]
    exact this
theorem VA_back {fuel : Nat} {listed : Array Bool} (hS : ∀ w, St w0 M H w → S w) (h : VA P ops Q S fuel listed n ds w0 env M H) :
    VE (fun e a w => match e with | .normal => S w ∧ wpAnyH P .any ops.toArray Q S fuel listed a w | e => Q e a w) .normal n ds w0 env M H :=
  ⟨fun a w hr hs => ⟨hS w hs, h.go a w hr hs (hS w hs)⟩⟩
theorem VA_done {fuel : Nat} {listed : Array Bool} (hr : Region.ready .any ops.toArray listed = []) (h : VE Q .normal n ds w0 env M H) : VA P ops Q S fuel listed n ds w0 env M H :=
  ⟨fun a w hra hsa _ => wpAnyH_done hr (h a w hra hsa) fuel⟩
end
end Go.Proofs.YtpboahlpgfglkaaDoor.X
