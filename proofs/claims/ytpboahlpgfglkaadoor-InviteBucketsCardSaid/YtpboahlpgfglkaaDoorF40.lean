/-
  SHA-256 of a block, in plain words; contracts: words turned, a step.
-/
import Derived.Test.YtpboahlpgfglkaaDoorF33
namespace Go.Proofs.YtpboahlpgfglkaaDoor.X
open Go Go.RowKit
set_option linter.unusedVariables false
set_option linter.unusedSimpArgs false
set_option maxRecDepth 100000

def rotR (x : UInt32) (n : Nat) : UInt32 := x >>> UInt32.ofNat n ||| x <<< UInt32.ofNat (32 - n)
theorem or_comm32 (a b : UInt32) : a ||| b = b ||| a := by
  apply UInt32.toNat_inj.1
  rw [UInt32.toNat_or, UInt32.toNat_or, Nat.or_comm]
theorem neg31 : ∀ k : Nat, k < 32 → 0 < k → (UInt64.ofNat (18446744073709551616 - k)) &&& 31 = UInt64.ofNat (32 - k) := by decide
theorem sub31 : ∀ k : Nat, k < 32 → 0 < k → 32 - UInt64.ofNat (32 - k) = UInt64.ofNat k := by decide
theorem conv_neg {k : Nat} (hk : k < 32) (h0 : 0 < k) : IntKind.u64.wrap (-(k : Int)) = ((UInt64.ofNat (18446744073709551616 - k)).toNat : Int) := by
  rw [wrap_u64, UInt64.toNat_ofNat', Nat.mod_eq_of_lt (by omega)]; omega
theorem nat64 {k : Nat} (hk : k < 64) : ((UInt64.ofNat k).toNat : Int) = (k : Int) := by
  rw [UInt64.toNat_ofNat', Nat.mod_eq_of_lt (by omega)]
theorem rotL (w : World) (x : UInt32) (k : Nat) (hk : k < 32) (h0 : 0 < k) :
    Calls Tryd.prog 108 #[u32 x, i64 (-(k : Int))] w (Ret fun v w' => v = u32 (rotR x k) ∧ St w [] [] w') := by
  refine enter (args := [_, _]) Tryd.func108 rfl rfl rfl ?_
  refine VC_seq ?_
  repeat (first | refine st ?_ | (refine sa ?_; intro _))
  apply VL_convert; exact .none; exact rfl; exact conv_neg hk h0; exact rfl
  apply VL_bin; exact .none; exact rfl; exact rfl; exact b64_and (b := 31); exact rfl
  rw [neg31 k hk h0]
  repeat (first | refine st ?_ | (refine sa ?_; intro _))
  apply VL_bin; exact .none; exact rfl; exact rfl; exact b32_shl (c' := 32 - k) (nat64 (by omega)) (by omega); exact rfl
  refine st ?_
  refine st ?_
  apply VL_bin; exact .none; exact rfl; exact rfl; exact b64_sub (a := 32); exact rfl
  rw [sub31 k hk h0]
  apply VL_bin; exact .none; exact rfl; exact rfl; exact b32_shr (c' := k) (nat64 (by omega)) (by omega); exact rfl
  apply VL_bin; exact .none; exact rfl; exact rfl; exact b32_or; exact rfl
  rw [or_comm32]
  repeat (first | refine st ?_ | (refine sa ?_; intro _))
  exact VE_ret1 rfl rfl (fun w s => ⟨_, rfl, rfl, s⟩)
theorem rot (w : World) (x : UInt32) (k : Nat) (hk : k < 32) (h0 : 0 < k) :
    Calls Tryd.prog 99 #[u32 x, i64 (k : Int)] w (Ret fun v w' => v = u32 (rotR x k) ∧ St w [] [] w') := by
  refine enter (args := [_, _]) Tryd.func99 rfl rfl rfl ?_
  repeat (first | refine st ?_ | (refine sa ?_; intro _))
  refine VC_still mixed (by kernel_rfl) ?_
  repeat (first | refine st ?_ | (refine sa ?_; intro _))
  refine VS_y .none (Y_bin rfl rfl (b32_shr (c' := k) rfl (by omega))) rfl rfl ?_
  refine st ?_
  refine st ?_
  refine VS_y .none (Y_bin rfl rfl (bi_sub (by omega) (by omega))) rfl rfl ?_
  refine VS_y .none (Y_bin rfl rfl (b32_shl (c' := 32 - k) (by omega) (by omega))) rfl rfl ?_
  repeat (first | refine st ?_ | (refine sa ?_; intro _))
  exact VE_ret1 rfl rfl (fun w s => ⟨_, rfl, rfl, s⟩)

/-- one of the 64 steps, 'kw' the key and the word added -/
structure V8 where
  a : UInt32
  b : UInt32
  c : UInt32
  d : UInt32
  e : UInt32
  f : UInt32
  g : UInt32
  h : UInt32
def V8.l (v : V8) : List UInt32 := [v.a, v.b, v.c, v.d, v.e, v.f, v.g, v.h]
def V8.val (v : V8) : Value := .agg #[u32 v.a, u32 v.b, u32 v.c, u32 v.d, u32 v.e, u32 v.f, u32 v.g, u32 v.h]
def V8.cells (v : V8) : List Value := [u32 v.a, u32 v.b, u32 v.c, u32 v.d, u32 v.e, u32 v.f, u32 v.g, u32 v.h]
def V8.p (v : V8) (kw : UInt32) : UInt32 := v.h + (rotR v.e 6 ^^^ rotR v.e 11 ^^^ rotR v.e 25) + ((v.e &&& v.f) ^^^ (~~~ v.e &&& v.g)) + kw
def V8.q (v : V8) : UInt32 := (rotR v.a 2 ^^^ rotR v.a 13 ^^^ rotR v.a 22) + ((v.a &&& v.b) ^^^ (v.a &&& v.c) ^^^ (v.b &&& v.c))
def V8.step (v : V8) (kw : UInt32) : V8 := ⟨v.p kw + v.q, v.a, v.b, v.c, v.d + v.p kw, v.e, v.f, v.g⟩
theorem b32_not (x : UInt32) : binRes .xor .u32 4294967295 .u32 (x.toNat : Int) = some (u32 (~~~ x)) := by
  have h := b32_xor (a := 4294967295) (b := x)
  have e : (4294967295 : UInt32) ^^^ x = ~~~ x := by
    apply UInt32.toBitVec_inj.1
    rw [UInt32.toBitVec_xor, UInt32.toBitVec_not]
    show BitVec.allOnes 32 ^^^ x.toBitVec = ~~~ x.toBitVec
    rw [BitVec.allOnes_xor]
  rw [e] at h; exact h
theorem VL_not32 {P : Program} {ops rest : List Oper} {Q : Exit → Act → World → Prop} {n : Nat} {ds : List Deferred} {w0 : World} {env : Env} {M : Mem} {H : List Ent} {d ty t : Nat} {pos : String} {aft : Array Edge} {g : Option (Nat × Bool)} {x : Operand} {a : UInt32} (hw : Wanted ops env g)
    (hx : evo env x = some (u32 a)) (hl : Nat.blt d n = true)
    (h : VL P ops Q rest n ds w0 ((d, u32 (~~~ a)) :: env) M H) : VL P ops Q (⟨some d, .unOp .xor t x, ty, pos, aft, g⟩ :: rest) n ds w0 env M H :=
  VL_xor hw hx (b32_not a) hl h
set_option maxHeartbeats 1000000 in
theorem step (w : World) (v : V8) (kw : UInt32) :
    Calls Tryd.prog 109 #[v.val, u32 kw] w (Ret fun r w' => r = (v.step kw).val ∧ St w [] [] w') := by
  refine enter (args := [_, _]) Tryd.func109 rfl rfl rfl ?_
  repeat (first | refine st ?_ | (refine sa ?_; intro _))
  refine VC_still mixed (by kernel_rfl) ?_
  repeat (first | refine st ?_ | (refine sa ?_; intro _))
  apply VL_call; exact .none; exact rfl; exact rfl
  · intro w1 s; exact rotL w1 v.e 6 (by decide) (by decide)
  rintro w1 v w2 s ⟨rfl, t⟩
  refine ⟨_, _, s.comp t, ?_⟩
  repeat (first | refine st ?_ | (refine sa ?_; intro _))
  apply VL_call; exact .none; exact rfl; exact rfl
  · intro w1 s; exact rotL w1 v.e 11 (by decide) (by decide)
  rintro w1 v w2 s ⟨rfl, t⟩
  refine ⟨_, _, s.comp t, ?_⟩
  repeat (first | refine st ?_ | (refine sa ?_; intro _))
  apply VL_call; exact .none; exact rfl; exact rfl
  · intro w1 s; exact rotL w1 v.e 25 (by decide) (by decide)
  rintro w1 v w2 s ⟨rfl, t⟩
  refine ⟨_, _, s.comp t, ?_⟩
  repeat (first | refine st ?_ | (refine sa ?_; intro _))
  apply VL_not32; exact .none; exact rfl; exact rfl
  repeat (first | refine st ?_ | (refine sa ?_; intro _))
  apply VL_call; exact .none; exact rfl; exact rfl
  · intro w1 s; exact rotL w1 v.a 2 (by decide) (by decide)
  rintro w1 v w2 s ⟨rfl, t⟩
  refine ⟨_, _, s.comp t, ?_⟩
  repeat (first | refine st ?_ | (refine sa ?_; intro _))
  apply VL_call; exact .none; exact rfl; exact rfl
  · intro w1 s; exact rotL w1 v.a 13 (by decide) (by decide)
  rintro w1 v w2 s ⟨rfl, t⟩
  refine ⟨_, _, s.comp t, ?_⟩
  repeat (first | refine st ?_ | (refine sa ?_; intro _))
  apply VL_call; exact .none; exact rfl; exact rfl
  · intro w1 s; exact rotL w1 v.a 22 (by decide) (by decide)
  rintro w1 v w2 s ⟨rfl, t⟩
  refine ⟨_, _, s.comp t, ?_⟩
  repeat (first | refine st ?_ | (refine sa ?_; intro _))
  refine VL_build (v := (v.step kw).val) .none rfl (fun w => by kernel_rfl) rfl ?_
  apply VL_storeW (k := 1) (vs := (v.step kw).cells); exact .none; exact rfl; exact rfl; exact rfl; exact rfl; exact rfl; exact rfl; exact rfl; exact NF.zero _
  repeat (first | refine st ?_ | (refine sa ?_; intro _))
  apply VE_retC (k := 1); exact rfl; infer_instance; exact rfl; exact rfl; exact rfl; exact rfl
  exact fun w s => ⟨_, rfl, rfl, s.drop⟩
end Go.Proofs.YtpboahlpgfglkaaDoor.X
