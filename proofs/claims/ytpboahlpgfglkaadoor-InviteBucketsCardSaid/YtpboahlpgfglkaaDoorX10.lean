/-
  Own library, part 10: slices seen as arrays; blocks picked; rules for regions that draw.
-/
import Derived.Test.YtpboahlpgfglkaaDoorX9
namespace Go.Proofs.YtpboahlpgfglkaaDoor.X
open Go Go.RowKit
set_option linter.unusedVariables false
set_option linter.unusedSimpArgs false

/-- some of the call's own blocks, in another order -/
theorem St.pick {w0 w : World} {M : Mem} {H : List Ent} (s : St w0 M H w) (ks : List Nat) (hnd : ks.Nodup) : St w0 M (ks.map fun k => (H[k]?).getD Option.none) w := by
  refine s.sub (fun i => ks.getD i 0) (fun k b o hk => ?_) (fun i j hi hj e => ?_)
  · rw [List.getElem?_map] at hk
    cases h : ks[k]? with
    | none => rw [h] at hk; simp at hk
    | some q =>
      rw [h] at hk
      simp only [Option.map_some, Option.some.injEq] at hk
      simp only [List.getD, h, Option.getD_some]
      cases h2 : H[q]? with
      | none => rw [h2] at hk; simp at hk
      | some r => rw [h2] at hk; simp at hk; rw [hk]
  · simp only [List.length_map] at hi hj
    simp only [List.getD, List.getElem?_eq_getElem hi, List.getElem?_eq_getElem hj, Option.getD_some] at e
    have key := List.pairwise_iff_getElem.1 hnd
    rcases Nat.lt_trichotomy i j with h | h | h
    · exact absurd e (key i j hi hj h)
    · exact h
    · exact absurd e.symm (key j i hj hi h)

theorem Rd.spot {w : World} {A : Option Addr} {vs : List Value} (h : Rd w A vs) (hn : 0 < vs.length) : ∀ a, A = some a → a.spot = none := by
  rintro a rfl
  rcases h with rfl | ⟨b, off, h, -⟩
  · simp at hn
  · cases h; rfl
theorem Rd.split {w : World} {A : Option Addr} {vs us : List Value} {c k : Nat} (h : Rd w A (vs ++ us)) (hk : vs.length = k) (hc : k + us.length ≤ c) : Rd w (if c = k then A else A.map (·.add (k * 1))) us := by
  subst hk
  have := sub_mk (A := A) (k := vs.length * 1) (m := c) (l := vs.length) rfl
  refine h.sub this (by omega) (fun j v hj => ?_)
  rw [Nat.mul_one, List.getElem?_append_right (by omega), show vs.length + j - vs.length = j by omega]; exact hj

section
variable {P : Program} {ops rest : List Oper} {Q : Exit → Act → World → Prop} {n : Nat} {ds : List Deferred} {w0 : World} {env env' : Env} {M M' : Mem} {H H' : List Ent}
  {d ty : Nat} {pos : String} {aft : Array Edge} {g : Option (Nat × Bool)} {x y : Operand}
theorem VL_sliceArr {t e N len cap : Nat} {A : Option Addr} {z : Value} {sz by_ : Nat} [hT : TI P t (.array N e) z sz by_] (hw : Wanted ops env g)
    (hx : evo env x = some (.slice A len cap)) (hN : N ≤ len) (hl : Nat.blt d n = true)
    (h : VL P ops Q rest n ds w0 ((d, .pointer A) :: env) M H) : VL P ops Q (⟨some d, .sliceToArrayPointer t x, ty, pos, aft, g⟩ :: rest) n ds w0 env M H :=
  VL_v hw hl (fun a w hr hs => by
    have : ¬ (len < N) := by omega
    simp [execOp, Instr.arrayAt, hr.ev hx, hT.r_und, this]) h
theorem Y_sliceArr {t e N len cap : Nat} {A : Option Addr} {z : Value} {sz by_ : Nat} [hT : TI P t (.array N e) z sz by_]
    (hx : evo env x = some (.slice A len cap)) (hN : N ≤ len) : Yv P n ds w0 env M H ⟨some d, .sliceToArrayPointer t x, ty, pos, aft, g⟩ (.pointer A) := fun a w hr hs => by
    have : ¬ (len < N) := by omega
    simp [execOp, Instr.arrayAt, hr.ev hx, hT.r_und, this]
theorem Y_loadRd {t : Nat} {dd : TypeDesc} {z : Value} {sz by_ : Nat} {A : Option Addr} {cs : List Value} [TI P t dd z sz by_] (hd : dd.isRow = true) (hx : evo env x = some (.pointer A))
    (hn : cs.length = sz) (hp : Nat.blt 0 sz = true) (hc : ∀ w, St w0 M H w → Rd w A cs) : Yv P n ds w0 env M H ⟨some d, .load t x, ty, pos, aft, g⟩ (.agg cs.toArray) := fun a w hr hs => by
  have hp' : 0 < sz := by simpa [Nat.blt_eq] using hp
  rcases hc w hs with h | ⟨b, off, rfl, h⟩
  · subst h; simp at hn; omega
  · exact Y_loadA hd hx hn (fun w' s' => by
      rcases hc w' s' with h' | ⟨b', off', e, h'⟩
      · subst h'; simp at hn; omega
      · cases e; exact h') a w hr hs
theorem VL_loadRd {t : Nat} {dd : TypeDesc} {z : Value} {sz by_ : Nat} {A : Option Addr} {cs : List Value} [TI P t dd z sz by_] (hw : Wanted ops env g) (hd : dd.isRow = true) (hx : evo env x = some (.pointer A))
    (hn : cs.length = sz) (hp : Nat.blt 0 sz = true) (hc : ∀ w, St w0 M H w → Rd w A cs) (hl : Nat.blt d n = true)
    (h : VL P ops Q rest n ds w0 ((d, .agg cs.toArray) :: env) M H) : VL P ops Q (⟨some d, .load t x, ty, pos, aft, g⟩ :: rest) n ds w0 env M H :=
  VL_v hw hl (fun a w hr hs => Y_loadRd hd hx hn hp hc a w hr hs) h
theorem Y_slice_lo' {t e : Nat} {z ze : Value} {sz by_ bye len cap : Nat} {de : TypeDesc} {A : Option Addr} {lo : Operand} {k : IntKind} {i : Int} {i' : Nat} [hT : TI P t (.slice e) z sz by_] [hE : TI P e de ze 1 bye]
    (hx : evo env x = some (.slice A len cap)) (hh : evo env lo = some (.int k i)) (hi' : i = (i' : Int)) (hb : i' ≤ len) :
    Yv P n ds w0 env M H ⟨some d, .slice t x (some lo) none none, ty, pos, aft, g⟩ (.slice (if cap = i' then A else A.map (·.add (i' * 1))) (len - i') (cap - i')) := fun a w hr hs => by
  subst hi'
  simp [execOp, Instr.sliceAt, Instr.slice, Instr.sliceBounds, hr.ev hx, hr.ev hh, hT.r_und, run_bound _ hb, hE.r_size]
theorem VL_slice_lo' {t e : Nat} {z ze : Value} {sz by_ bye len cap : Nat} {de : TypeDesc} {A : Option Addr} {lo : Operand} {k : IntKind} {i : Int} {i' : Nat} [hT : TI P t (.slice e) z sz by_] [hE : TI P e de ze 1 bye] (hw : Wanted ops env g)
    (hx : evo env x = some (.slice A len cap)) (hh : evo env lo = some (.int k i)) (hi' : i = (i' : Int)) (hb : i' ≤ len) (hl : Nat.blt d n = true)
    (h : VL P ops Q rest n ds w0 ((d, .slice (if cap = i' then A else A.map (·.add (i' * 1))) (len - i') (cap - i')) :: env) M H) : VL P ops Q (⟨some d, .slice t x (some lo) none none, ty, pos, aft, g⟩ :: rest) n ds w0 env M H :=
  VL_v hw hl (fun a w hr hs => Y_slice_lo' hx hh hi' hb a w hr hs) h
end
end Go.Proofs.YtpboahlpgfglkaaDoor.X
