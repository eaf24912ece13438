/-
  Own library, part 5: slices cut, copied, written out; conversions; interfaces.
-/
import Derived.Test.YtpboahlpgfglkaaDoorX4
namespace Go.Proofs.YtpboahlpgfglkaaDoor.X
open Go Go.RowKit
set_option linter.unusedVariables false
set_option linter.unusedSimpArgs false

/-- the part of a slice from its k-th cell on; 'rem': how much room it has -/
def Sub (A A' : Option Addr) (k rem : Nat) : Prop := (rem = 0 ∧ A' = A) ∨ A' = A.map (·.add k)
theorem Rd.sub {w : World} {A A' : Option Addr} {vs us : List Value} {k rem : Nat} (h : Rd w A vs) (hs : Sub A A' k rem) (hl : us.length ≤ rem) (hu : ∀ j v, us[j]? = some v → vs[k + j]? = some v) : Rd w A' us := by
  rcases hs with ⟨rfl, rfl⟩ | rfl
  · have : us = [] := List.length_eq_zero_iff.1 (by omega)
    subst this
    exact .inl rfl
  · rcases h with rfl | ⟨b, off, rfl, h⟩
    · refine .inl ?_
      cases us with
      | nil => rfl
      | cons u us => have := hu 0 u rfl; simp at this
    · refine .inr ⟨b, off + k, by simp [add_norm], fun j v hj => ?_⟩
      have := h (k + j) v (hu j v hj)
      rwa [← Nat.add_assoc] at this

section
variable {P : Program} {ops rest : List Oper} {Q : Exit → Act → World → Prop} {n : Nat} {ds : List Deferred} {w0 : World} {env env' : Env} {M M' : Mem} {H H' : List Ent}
  {d ty : Nat} {pos : String} {aft : Array Edge} {g : Option (Nat × Bool)} {x y : Operand}

theorem run_bound {k : IntKind} {i : Nat} {m : Nat} (c : BoundsCode) (h : i ≤ m) (w : World) : (Instr.sliceBound (.int k (i : Int)) m c).run P w = .ok i w := by
  simp [Instr.sliceBound, asIntOf, h]
theorem sub_mk {A : Option Addr} {k m l : Nat} (h : m - l = m - l) : Sub A (if m = l then A else A.map (·.add k)) k (m - l) := by
  by_cases e : m = l
  · rw [if_pos e]; exact .inl ⟨by omega, rfl⟩
  · rw [if_neg e]; exact .inr rfl

/-- x[:h] -/
theorem VL_slice_hi {t e : Nat} {z ze : Value} {sz by_ sze bye len cap : Nat} {de : TypeDesc} {A : Option Addr} {hi : Operand} {k : IntKind} {i : Int} {i' : Nat} [hT : TI P t (.slice e) z sz by_] [hE : TI P e de ze sze bye] (hw : Wanted ops env g)
    (hx : evo env x = some (.slice A len cap)) (hh : evo env hi = some (.int k i)) (hi' : i = (i' : Int)) (hb : i' ≤ cap) (hA : ∀ a, A = some a → a.spot = none) (hl : Nat.blt d n = true)
    (h : VL P ops Q rest n ds w0 ((d, .slice A i' cap) :: env) M H) : VL P ops Q (⟨some d, .slice t x none (some hi) none, ty, pos, aft, g⟩ :: rest) n ds w0 env M H :=
  VL_v hw hl (fun a w hr hs => by
    subst hi'
    have e1 : (A.map fun a => a.add (0 * sze)) = A := by
      cases A with
      | none => rfl
      | some a => simp [Addr.add]
    simp only [Nat.zero_mul] at e1
    simp [execOp, Instr.sliceAt, Instr.slice, Instr.sliceBounds, hr.ev hx, hr.ev hh, hT.r_und, run_bound _ hb, hE.r_size, e1]) h
/-- x[l:] -/
theorem VL_slice_lo {t e : Nat} {z ze : Value} {sz by_ sze bye len cap : Nat} {de : TypeDesc} {A : Option Addr} {lo : Operand} {k : IntKind} {i : Int} {i' : Nat} [hT : TI P t (.slice e) z sz by_] [hE : TI P e de ze sze bye] (hw : Wanted ops env g)
    (hx : evo env x = some (.slice A len cap)) (hh : evo env lo = some (.int k i)) (hi' : i = (i' : Int)) (hb : i' ≤ len) (hl : Nat.blt d n = true)
    (h : ∀ A', Sub A A' (i' * sze) (cap - i') → VL P ops Q rest n ds w0 ((d, .slice A' (len - i') (cap - i')) :: env) M H) : VL P ops Q (⟨some d, .slice t x (some lo) none none, ty, pos, aft, g⟩ :: rest) n ds w0 env M H :=
  VL_v hw hl (fun a w hr hs => by
    subst hi'
    simp [execOp, Instr.sliceAt, Instr.slice, Instr.sliceBounds, hr.ev hx, hr.ev hh, hT.r_und, run_bound _ hb, hE.r_size]) (h _ (sub_mk rfl))
/-- x[l:h] -/
theorem VL_slice_lohi {t e : Nat} {z ze : Value} {sz by_ sze bye len cap : Nat} {de : TypeDesc} {A : Option Addr} {lo hi : Operand} {k k2 : IntKind} {i j : Int} {i' j' : Nat} [hT : TI P t (.slice e) z sz by_] [hE : TI P e de ze sze bye] (hw : Wanted ops env g)
    (hx : evo env x = some (.slice A len cap)) (hh : evo env lo = some (.int k i)) (hh2 : evo env hi = some (.int k2 j)) (hi' : i = (i' : Int)) (hj' : j = (j' : Int)) (hb : i' ≤ j') (hb2 : j' ≤ cap) (hl : Nat.blt d n = true)
    (h : ∀ A', Sub A A' (i' * sze) (cap - i') → VL P ops Q rest n ds w0 ((d, .slice A' (j' - i') (cap - i')) :: env) M H) : VL P ops Q (⟨some d, .slice t x (some lo) (some hi) none, ty, pos, aft, g⟩ :: rest) n ds w0 env M H :=
  VL_v hw hl (fun a w hr hs => by
    subst hi' hj'
    simp [execOp, Instr.sliceAt, Instr.slice, Instr.sliceBounds, hr.ev hx, hr.ev hh, hr.ev hh2, hT.r_und, run_bound _ hb, run_bound _ hb2, hE.r_size]) (h _ (sub_mk rfl))
/-- x[:h:m] -/
theorem VL_slice_himax {t e : Nat} {z ze : Value} {sz by_ sze bye len cap : Nat} {de : TypeDesc} {A : Option Addr} {hi mx : Operand} {k k2 : IntKind} {i j : Int} {i' j' : Nat} [hT : TI P t (.slice e) z sz by_] [hE : TI P e de ze sze bye] (hw : Wanted ops env g)
    (hx : evo env x = some (.slice A len cap)) (hh : evo env hi = some (.int k i)) (hh2 : evo env mx = some (.int k2 j)) (hi' : i = (i' : Int)) (hj' : j = (j' : Int)) (hb : i' ≤ j') (hb2 : j' ≤ cap) (hl : Nat.blt d n = true)
    (h : VL P ops Q rest n ds w0 ((d, .slice A i' j') :: env) M H) : VL P ops Q (⟨some d, .slice t x none (some hi) (some mx), ty, pos, aft, g⟩ :: rest) n ds w0 env M H :=
  VL_v hw hl (fun a w hr hs => by
    subst hi' hj'
    have e1 : (A.map fun a => a.add 0) = A := by
      cases A with
      | none => rfl
      | some a => simp [Addr.add]
    simp [execOp, Instr.sliceAt, Instr.slice, Instr.sliceBounds, hr.ev hx, hr.ev hh, hr.ev hh2, hT.r_und, run_bound _ hb, run_bound _ hb2, hE.r_size, e1]) h
/-- a[l:h] of an array that lies in memory; what is left out is 0, or the array's length -/
theorem VL_slice_arr {t e N : Nat} {z ze : Value} {sz by_ sze bye b off : Nat} {de : TypeDesc} {lo hi : Option Operand} {i' j' : Nat} [hT : TI P t (.array N e) z sz by_] [hE : TI P e de ze sze bye] (hw : Wanted ops env g)
    (hx : evo env x = some (.pointer (some ⟨b, off, none⟩))) (hh : (lo = none ∧ i' = 0) ∨ ∃ o k, lo = some o ∧ evo env o = some (.int k (i' : Int))) (hh2 : (hi = none ∧ j' = N) ∨ ∃ o k, hi = some o ∧ evo env o = some (.int k (j' : Int)))
    (hb : i' ≤ j') (hb2 : j' ≤ N) (hl : Nat.blt d n = true)
    (h : ∀ off', (off' = off + i' * sze ∨ (i' = N ∧ off' = off)) → VL P ops Q rest n ds w0 ((d, .slice (some ⟨b, off', none⟩) (j' - i') (N - i')) :: env) M H) : VL P ops Q (⟨some d, .slice t x lo hi none, ty, pos, aft, g⟩ :: rest) n ds w0 env M H := by
  have key : ∀ a w, Rep n ds env a → (execOp a.eval ⟨some d, .slice t x lo hi none, ty, pos, aft, g⟩).run P w = .ok (.value (.slice (some (if N = i' then ⟨b, off, none⟩ else ⟨b, off + i' * sze, none⟩)) (j' - i') (N - i'))) w := by
    intro a w hr
    rcases hh with ⟨rfl, rfl⟩ | ⟨o, k, rfl, ho⟩ <;> rcases hh2 with ⟨rfl, rfl⟩ | ⟨o2, k2, rfl, ho2⟩ <;>
      simp [execOp, Instr.sliceAt, Instr.sliceBounds, Instr.sureAddr, hr.ev hx, hr.ev, hT.r_und, run_bound _ hb, run_bound _ hb2, hE.r_size, add_norm, *]
  by_cases e : N = i'
  · refine VL_v hw hl (fun a w hr hs => key a w hr) ?_
    rw [if_pos e]; exact h _ (.inr ⟨e.symm, rfl⟩)
  · refine VL_v hw hl (fun a w hr hs => key a w hr) ?_
    rw [if_neg e]; exact h _ (.inl rfl)

/-! ### copy -/
theorem VL_copy {t tx e T : Nat} {z ze : Value} {sz by_ bye dl dc c2 p m b off : Nat} {de : TypeDesc} {l news : List Value} {fr : Nat × Nat} {A2 : Option Addr} [hT : TI P t (.slice e) z sz by_] [hE : TI P e de ze 1 bye] (hw : Wanted ops env g)
    (hx : evo env x = some (.slice (some ⟨b, off, none⟩) dl dc)) (hy : evo env y = some (.slice A2 m c2)) (hp : H[p]? = some (Blk b l T fr)) (hf : NF fr l.length) (hdl : off + dl ≤ l.length)
    (hm : m = news.length) (hrd : ∀ w, St w0 M H w → Rd w A2 news) (h2 : news.all (·.oneCell') = true) (hl : Nat.blt d n = true)
    (h : VL P ops Q rest n ds w0 ((d, .int .i64 ((Nat.min m dl : Nat) : Int)) :: env) M (H.set p (Blk b (splice l off (news.take dl)) T fr))) :
    VL P ops Q (⟨some d, .call { callee := .builtin .copy, args := #[x, y], argTypes := #[t, tx] }, ty, pos, aft, g⟩ :: rest) n ds w0 env M H := by
  subst hm
  refine VL_w (ι := Unit) (J := fun _ => True) (V := fun _ => .int .i64 ((Nat.min news.length dl : Nat) : Int)) (M' := fun _ => M) (H' := fun _ => H.set p (Blk b (splice l off (news.take dl)) T fr)) hw hl ?_ (fun _ _ => h)
  intro a w hr hs
  have hg := (hs.new p b _ hp).2
  obtain ⟨w', r, u⟩ := run_storeCells (P := P) (o := off) (news.take dl) 0 l w hg (by have := List.length_take_le dl news; omega) hf (fun v hv => List.all_eq_true.1 h2 v (List.mem_of_mem_take hv))
  have hlen : (news.take dl).length = Nat.min news.length dl := by rw [List.length_take, Nat.min_comm]
  have hfirst : (Builtin.firstCells 1 (Nat.min news.length dl) (.slice A2 news.length c2)).run P w = .ok (news.take dl).toArray w := by
    rcases hrd w hs with rfl | ⟨b2, off2, rfl, hat⟩
    · cases A2 with
      | none => simp [Builtin.firstCells]
      | some a => simpa using run_firstCells_some (P := P) w 1 0 a 0 c2 [] (by simp) (fun j u hj => by simp at hj)
    · refine run_firstCells_some (P := P) w 1 _ ⟨b2, off2, none⟩ _ _ (news.take dl) (by rw [hlen, Nat.mul_one]) (fun j u hj => ?_)
      rw [add_norm]
      refine hat j u ?_
      rw [List.getElem?_take] at hj
      split at hj
      · exact hj
      · simp at hj
  refine ⟨(), w', ?_, trivial, hs.updH hp (by simpa using u)⟩
  simp only [execOp, resolve, invoke, builtin, Builtin.copy_, Sem.run_bind, Sem.run_pure, Result.andThen_ok, List.map_toArray, List.map_cons, List.map_nil, hr.ev hx, hr.ev hy, List.getElem?_toArray, List.getElem?_cons_zero, List.getElem?_cons_succ, hT.r_und, Builtin.lenOf, hE.r_size, hfirst, r, goInt]
/-- into a slice of the call's own, or one that reads as it -/
theorem VL_copyO {t tx e T c : Nat} {z ze : Value} {sz by_ bye dl c2 p m : Nat} {de : TypeDesc} {vs news : List Value} {ent : Ent} {A A2 : Option Addr} [hT : TI P t (.slice e) z sz by_] [hE : TI P e de ze 1 bye] (hw : Wanted ops env g)
    (hx : evo env x = some (.slice A dl c)) (hy : evo env y = some (.slice A2 m c2)) (hp : H[p]? = some ent) (ho : OwnSl ent A c T vs) (hdl : dl = vs.length)
    (hm : m = news.length) (hrd : ∀ w, St w0 M H w → Rd w A2 news) (h2 : news.all (·.oneCell') = true) (hl : Nat.blt d n = true)
    (h : ∀ ent', OwnSl ent' A c T (splice vs 0 (news.take dl)) → VL P ops Q rest n ds w0 ((d, .int .i64 ((Nat.min m dl : Nat) : Int)) :: env) M (H.set p ent')) :
    VL P ops Q (⟨some d, .call { callee := .builtin .copy, args := #[x, y], argTypes := #[t, tx] }, ty, pos, aft, g⟩ :: rest) n ds w0 env M H := by
  subst hdl
  rcases ho with ⟨rfl, rfl, rfl, rfl⟩ | ⟨b, junk, fr, rfl, rfl, rfl, hf⟩
  · subst hm
    have e1 : H.set p none = H := by
      apply List.ext_getElem?
      intro j
      rw [List.getElem?_set]
      split
      · subst_vars; split
        · exact hp.symm
        · rename_i h'; rw [List.getElem?_eq_none (by omega)]
      · rfl
    have h' := h none (by simpa [splice] using OwnSl.nil T)
    rw [e1] at h'
    refine VL_v hw hl ?_ h'
    intro a w hr hs
    have hfirst : (Builtin.firstCells 1 0 (.slice A2 news.length c2)).run P w = .ok #[] w := by
      rcases hrd w hs with rfl | ⟨b2, off2, rfl, hat⟩
      · cases A2 with
        | none => simp [Builtin.firstCells]
        | some a => exact run_firstCells_some (P := P) w 1 0 a _ c2 [] (by simp) (fun j u hj => by simp at hj)
      · exact run_firstCells_some (P := P) w 1 0 ⟨b2, off2, none⟩ _ _ [] (by simp) (fun j u hj => by simp at hj)
    have e0 : Nat.min news.length ([] : List Value).length = 0 := Nat.min_eq_right (Nat.zero_le _)
    rw [e0]
    have e0' : Nat.min news.length 0 = 0 := e0
    simp only [execOp, resolve, invoke, builtin, Builtin.copy_, Sem.run_bind, Sem.run_pure, Result.andThen_ok, List.map_toArray, List.map_cons, List.map_nil, hr.ev hx, hr.ev hy, List.getElem?_toArray, List.getElem?_cons_zero, List.getElem?_cons_succ, hT.r_und, Builtin.lenOf, hE.r_size, e0', List.length_nil, hfirst, goInt]
  · refine VL_copy (T := T) hw hx hy hp (by simpa using hf) (by simp) hm hrd h2 hl (h _ (.inr ⟨b, junk, fr, ?_, rfl, ?_, hf⟩))
    · have : (vs ++ junk).drop ((List.take vs.length news).length) = vs.drop (List.take vs.length news).length ++ junk := by
        rw [List.drop_append_of_le_length (by simp; omega)]
      simp only [splice, Nat.zero_add, List.take_zero, List.nil_append, this, List.append_assoc]
    · rw [splice_length (by simp; omega)]

/-! ### written out -/
theorem evParts {a : Act} (h : Rep n ds env a) : ∀ {ps : List (Nat × Operand)} {vs : List (Nat × Value)}, (ps.mapM fun p => (evo env p.2).map fun v => (p.1, v)) = some vs → ps.map (fun p => (p.1, a.eval p.2)) = vs
  | [], vs, hv => by simp at hv; subst hv; rfl
  | p :: r, vs, hv => by
    simp only [List.mapM_cons] at hv
    cases h1 : evo env p.2 with
    | none => simp [h1] at hv
    | some u =>
      cases h2 : (r.mapM fun p => (evo env p.2).map fun v => (p.1, v)) with
      | none => simp [h1, h2] at hv
      | some us =>
        simp [h1, h2] at hv
        subst hv
        simp [h.ev h1, evParts h h2]
def evps (env : Env) : List (Nat × Operand) → Option (List (Nat × Value))
  | [] => some []
  | (k, x) :: r => match evo env x, evps env r with
    | some v, some vs => some ((k, v) :: vs)
    | _, _ => none
theorem Rep.evps {a : Act} (h : Rep n ds env a) : ∀ {ps : List (Nat × Operand)} {vs : List (Nat × Value)}, X.evps env ps = some vs → ps.map (fun p => (p.1, a.eval p.2)) = vs
  | [], vs, hv => by simp [X.evps] at hv; subst hv; rfl
  | (k, x) :: r, vs, hv => by
    simp only [X.evps] at hv
    split at hv
    · rename_i v vs' h1 h2
      simp at hv
      subst hv
      simp [h.ev h1, Rep.evps h h2]
    · simp at hv
/-- []T{..}: a new row -/
theorem VL_buildSlice {t e len : Nat} {z ze : Value} {sz by_ sze bye : Nat} {de : TypeDesc} {ps : List (Nat × Operand)} {vs : List (Nat × Value)} {cs : List Value} [hT : TI P t (.slice e) z sz by_] [hE : TI P e de ze sze bye] (hw : Wanted ops env g)
    (hx : evps env ps = some vs) (hsz : Nat.ble (len * sze) 16777216 = true) (hpos : Nat.beq (len * sze) 0 = false)
    (hfill : Instr.fill (fun i => some (i * sze, sze)) (madeCells ze.cells (len * sze)) vs = some cs.toArray) (hl : Nat.blt d n = true)
    (h : ∀ b, VL P ops Q rest n ds w0 ((d, .slice (some ⟨b, 0, none⟩) len len) :: env) M (H ++ [Blk b cs e])) :
    VL P ops Q (⟨some d, .buildSlice t len ps.toArray, ty, pos, aft, g⟩ :: rest) n ds w0 env M H :=
  VL_w (J := fun _ => True) (V := fun b => .slice (some ⟨b, 0, none⟩) len len) (M' := fun _ => M) (H' := fun b => H ++ [Blk b cs e]) hw hl (fun a w hr hs => by
    have h0 : ¬ (len * sze = 0) := fun e => by rw [e] at hpos; simp at hpos
    have h1 : ¬ (16777216 < len * sze) := by have := Nat.le_of_ble_eq_true hsz; omega
    have h2 := hr.evps hx
    have h3 : (ps.toArray.map fun p => (p.1, a.eval p.2)).toList = vs := by simpa using h2
    have h0' : ¬ (len = 0 ∨ sze = 0) := fun e => h0 (by rcases e with e | e <;> simp [e])
    refine ⟨w.heap.size, _, ?_, trivial, hs.alloc _⟩
    have hfill' := hfill
    unfold madeCells at hfill'
    simp [execOp, Instr.buildSlice, hT.r_und, hE.r_size, hE.r_zero, h1, h0, newRow]
    have h4 : (List.map (fun p => (p.1, a.eval p.2)) ps) = vs := h2
    simp only [h4, hfill', Sem.run_bind, Sem.run_map, Sem.run_pure, Result.andThen_ok, run_newObj, if_neg h0]
    rfl) (fun b _ => h b)
theorem fill_one : ∀ (ps : List (Nat × Value)) (k : Nat) (cells : List Value), ps.map Prod.fst = List.range' k ps.length → k + ps.length ≤ cells.length → (∀ p ∈ ps, p.2.oneCell' = true) →
    Instr.fill (fun i => some (i * 1, 1)) cells.toArray ps = some (cells.take k ++ ps.map Prod.snd ++ cells.drop (k + ps.length)).toArray
  | [], k, cells, _, _, _ => by simp [Instr.fill]
  | (i, v) :: ps, k, cells, hk, hl, h1 => by
    simp only [List.map_cons, List.length_cons, List.range'_succ, List.cons.injEq] at hk
    obtain ⟨rfl, hk⟩ := hk
    simp only [List.length_cons] at hl
    have hv : v.cells = #[v] := by have := h1 (i, v) (by simp); cases v <;> simp_all [Value.oneCell', Value.cells]
    have ih := fill_one ps (i + 1) (cells.set i v) hk (by simp; omega) (fun p hp => h1 p (by simp [hp]))
    have hstep : (Array.foldl (fun cs (x : Value × Nat) => cs.setIfInBounds (i * 1 + x.2) x.1) cells.toArray v.cells.zipIdx) = (cells.set i v).toArray := by
      rw [hv]; simp
    have e1 : List.take (i + 1) (cells.set i v) ++ List.map Prod.snd ps ++ List.drop (i + 1 + ps.length) (cells.set i v) = List.take i cells ++ List.map Prod.snd ((i, v) :: ps) ++ List.drop (i + (ps.length + 1)) cells := by
      rw [List.take_succ_eq_append_getElem (by simp; omega), List.take_set_of_le (Nat.le_refl i), List.getElem_set_self, List.drop_set_of_lt (by omega)]
      simp [Nat.add_assoc, Nat.add_comm 1]
    rw [e1] at ih
    simp only [Instr.fill, hv, List.size_toArray, List.length_cons, List.length_nil]
    rw [if_neg (by simp; omega)]
    rw [hv] at hstep
    rw [hstep]; exact ih
/-- []T{x, y, ..}: one cell each -/
theorem VL_buildSlice1 {t e len : Nat} {z ze : Value} {sz by_ bye : Nat} {de : TypeDesc} {ps : List (Nat × Operand)} {vs : List (Nat × Value)} [hT : TI P t (.slice e) z sz by_] [hE : TI P e de ze 1 bye] (hw : Wanted ops env g)
    (hx : evps env ps = some vs) (hk : vs.map Prod.fst = List.range' 0 len) (hz : ze.cells = #[ze]) (hsz : Nat.ble len 16777216 = true) (hpos : Nat.beq len 0 = false)
    (h1 : (vs.map Prod.snd).all (·.oneCell') = true) (hl : Nat.blt d n = true)
    (h : ∀ b, VL P ops Q rest n ds w0 ((d, .slice (some ⟨b, 0, none⟩) len len) :: env) M (H ++ [Blk b (vs.map Prod.snd) e])) :
    VL P ops Q (⟨some d, .buildSlice t len ps.toArray, ty, pos, aft, g⟩ :: rest) n ds w0 env M H := by
  have hlen : vs.length = len := by have := congrArg List.length hk; simpa using this
  refine VL_buildSlice (vs := vs) (cs := vs.map Prod.snd) hw hx (by simpa using hsz) (by simpa using hpos) ?_ hl h
  rw [hz, madeCells_one]
  have := fill_one vs 0 (List.replicate len ze) (by rw [hlen]; exact hk) (by simp [hlen]) (fun p hp => List.all_eq_true.1 h1 p.2 (List.mem_map_of_mem hp))
  rw [this]
  simp [hlen]
/-- T{..} of a struct, an array: its cells by reckoning -/
theorem VL_build {t : Nat} {ps : List (Nat × Operand)} {vs : List (Nat × Value)} {v : Value} (hw : Wanted ops env g)
    (hx : evps env ps = some vs) (hrun : ∀ w, (Instr.build t vs.toArray).run P w = .ok v w) (hl : Nat.blt d n = true)
    (h : VL P ops Q rest n ds w0 ((d, v) :: env) M H) : VL P ops Q (⟨some d, .build t ps.toArray, ty, pos, aft, g⟩ :: rest) n ds w0 env M H :=
  VL_v hw hl (fun a w hr hs => by
    have h2 := hr.evps hx
    have h3 : (ps.toArray.map fun p => (p.1, a.eval p.2)) = vs.toArray := by simpa using h2
    simp only [execOp, h3, Sem.run_bind, hrun, Result.andThen_ok, Sem.run_pure]) h

/-! ### numbers once more -/
theorem VL_convert {s t : Nat} {k k' : IntKind} {i r : Int} {z zs : Value} {sz by_ szs bys : Nat} {dsrc : TypeDesc} [hS : TI P s dsrc zs szs bys] [hT : TI P t (.int k') z sz by_] (hw : Wanted ops env g)
    (hx : evo env x = some (.int k i)) (hv : k'.wrap i = r) (hl : Nat.blt d n = true)
    (h : VL P ops Q rest n ds w0 ((d, .int k' r) :: env) M H) : VL P ops Q (⟨some d, .convert s t x, ty, pos, aft, g⟩ :: rest) n ds w0 env M H :=
  VL_v hw hl (fun a w hr hs => by
    subst hv
    simp only [execOp, convert, Sem.run_bind, hS.r_und, hT.r_und, Result.andThen_ok, hr.ev hx]
    cases dsrc <;> simp [Conv.intToInt]) h
theorem VL_not {t : Nat} {b : Bool} (hw : Wanted ops env g) (hx : evo env x = some (.bool b)) (hl : Nat.blt d n = true)
    (h : VL P ops Q rest n ds w0 ((d, .bool (!b)) :: env) M H) : VL P ops Q (⟨some d, .unOp .not t x, ty, pos, aft, g⟩ :: rest) n ds w0 env M H :=
  VL_v hw hl (fun a w hr hs => by simp [execOp, Op.unary, hr.ev hx]) h
theorem VL_not_d {t : Nat} {p : Prop} {inst : Decidable p} (hw : Wanted ops env g) (hx : evo env x = some (.bool (decide p))) (hl : Nat.blt d n = true)
    (h : VL P ops Q rest n ds w0 ((d, .bool (decide (¬ p))) :: env) M H) : VL P ops Q (⟨some d, .unOp .not t x, ty, pos, aft, g⟩ :: rest) n ds w0 env M H :=
  VL_v hw hl (fun a w hr hs => by simp [execOp, Op.unary, hr.ev hx]) h
theorem VL_neg {t : Nat} {k : IntKind} {i r : Int} (hw : Wanted ops env g) (hx : evo env x = some (.int k i)) (hv : k.wrap (0 - i) = r) (hl : Nat.blt d n = true)
    (h : VL P ops Q rest n ds w0 ((d, .int k r) :: env) M H) : VL P ops Q (⟨some d, .unOp .neg t x, ty, pos, aft, g⟩ :: rest) n ds w0 env M H :=
  VL_v hw hl (fun a w hr hs => by subst hv; simp [execOp, Op.unary, Op.intArith, hr.ev hx]) h
theorem VL_xor {t : Nat} {k : IntKind} {i : Int} {v : Value} (hw : Wanted ops env g) (hx : evo env x = some (.int k i)) (hv : binRes .xor k (if k.signed then -1 else k.max) k i = some v) (hl : Nat.blt d n = true)
    (h : VL P ops Q rest n ds w0 ((d, v) :: env) M H) : VL P ops Q (⟨some d, .unOp .xor t x, ty, pos, aft, g⟩ :: rest) n ds w0 env M H :=
  VL_v hw hl (fun a w hr hs => by
    simp [binRes] at hv
    subst hv
    simp [execOp, Op.unary, Op.intBits, hr.ev hx]) h
/-- min, max of two -/
theorem VL_min {t1 : Array Nat} {k k2 : IntKind} {i j : Int} (hw : Wanted ops env g) (hx : evo env x = some (.int k i)) (hy : evo env y = some (.int k2 j)) (hl : Nat.blt d n = true)
    (h : VL P ops Q rest n ds w0 ((d, .int k (if j < i then j else i)) :: env) M H) : VL P ops Q (⟨some d, .call { callee := .builtin .min, args := #[x, y], argTypes := t1 }, ty, pos, aft, g⟩ :: rest) n ds w0 env M H :=
  VL_v hw hl (fun a w hr hs => by simp [execOp, resolve, invoke, builtin, Builtin.min_, Builtin.min2, hr.ev hx, hr.ev hy]) h
theorem VL_max {t1 : Array Nat} {k k2 : IntKind} {i j : Int} (hw : Wanted ops env g) (hx : evo env x = some (.int k i)) (hy : evo env y = some (.int k2 j)) (hl : Nat.blt d n = true)
    (h : VL P ops Q rest n ds w0 ((d, .int k (if i < j then j else i)) :: env) M H) : VL P ops Q (⟨some d, .call { callee := .builtin .max, args := #[x, y], argTypes := t1 }, ty, pos, aft, g⟩ :: rest) n ds w0 env M H :=
  VL_v hw hl (fun a w hr hs => by simp [execOp, resolve, invoke, builtin, Builtin.max_, Builtin.max2, hr.ev hx, hr.ev hy]) h

/-! ### nil, interfaces, strings -/
theorem VL_eqNil {t e : Nat} {z : Value} {sz by_ : Nat} {p : Option Addr} [hT : TI P t (.pointer e) z sz by_] (hw : Wanted ops env g) (hx : evo env x = some (.pointer p)) (hy : evo env y = some (.pointer none)) (hl : Nat.blt d n = true) {yt : Nat}
    (h : VL P ops Q rest n ds w0 ((d, .bool p.isNone) :: env) M H) : VL P ops Q (⟨some d, .binOp .eql t x y yt, ty, pos, aft, g⟩ :: rest) n ds w0 env M H :=
  VL_v hw hl (fun a w hr hs => by
    have key : (Op.equal t (.pointer p) (.pointer none)).run P w = .ok p.isNone w := by
      show (Op.equalIn (9999 + 1) t (.pointer p) (.pointer none)).run P w = _
      rw [Op.equalIn, Sem.run_bind, hT.r_und]
      cases p <;> rfl
    cases p <;> simp only [execOp, hr.ev hx, hr.ev hy, eqGuard, binOp, key, Sem.run_bind, Sem.run_pure, Result.andThen_ok] <;> simp <;> (rw [key]; rfl)) h
theorem VL_makeIface {t : Nat} {v z : Value} {sz by_ : Nat} {dd : TypeDesc} [hT : TI P t dd z sz by_] (hw : Wanted ops env g) (hd : (match dd with | .interface _ => true | _ => false) = false) (hx : evo env x = some v) (hl : Nat.blt d n = true)
    (h : VL P ops Q rest n ds w0 ((d, .iface t v) :: env) M H) : VL P ops Q (⟨some d, .makeInterface t x, ty, pos, aft, g⟩ :: rest) n ds w0 env M H :=
  VL_v hw hl (fun a w hr hs => by
    simp only [execOp, Instr.makeInterface, Sem.run_bind, hT.r_und, Result.andThen_ok, hr.ev hx]
    cases dd <;> simp_all) h
/-- x.(T), T no interface: x holds that type -/
theorem VL_assert_t {xt t : Nat} {v z : Value} {sz by_ : Nat} {dd : TypeDesc} [hT : TI P t dd z sz by_] (hw : Wanted ops env g) (hd : (match dd with | .interface _ => true | _ => false) = false) (hx : evo env x = some (.iface t v)) (hl : Nat.blt d n = true)
    (h : VL P ops Q rest n ds w0 ((d, .tuple #[v, .bool true]) :: env) M H) : VL P ops Q (⟨some d, .typeAssert x xt t true, ty, pos, aft, g⟩ :: rest) n ds w0 env M H :=
  VL_v hw hl (fun a w hr hs => by
    simp only [execOp, Instr.typeAssert, Sem.run_bind, hT.r_und, Result.andThen_ok, hr.ev hx]
    cases dd <;> simp_all) h
theorem VL_assert_f {xt t t' : Nat} {v z : Value} {sz by_ : Nat} {dd : TypeDesc} [hT : TI P t dd z sz by_] (hw : Wanted ops env g) (hd : (match dd with | .interface _ => true | _ => false) = false) (hx : evo env x = some (.iface t' v)) (hne : Nat.beq t' t = false) (hl : Nat.blt d n = true)
    (h : VL P ops Q rest n ds w0 ((d, .tuple #[z, .bool false]) :: env) M H) : VL P ops Q (⟨some d, .typeAssert x xt t true, ty, pos, aft, g⟩ :: rest) n ds w0 env M H :=
  VL_v hw hl (fun a w hr hs => by
    have hne' : ¬ (t' = t) := fun e => by subst e; simp at hne
    simp only [execOp, Instr.typeAssert, Sem.run_bind, hT.r_und, Result.andThen_ok, hr.ev hx]
    cases dd <;> simp_all [hT.r_zero]) h
/-- s[i] of a string -/
theorem VL_index_string {t : Nat} {z : Value} {sz by_ : Nat} {s : ByteArray} {k : IntKind} {i : Int} {i' : Nat} {c : UInt8} [hT : TI P t .string z sz by_] (hw : Wanted ops env g) (hx : evo env x = some (.string s)) (hy : evo env y = some (.int k i)) (hi : i = (i' : Int)) (hc : s[i']? = some c) (hl : Nat.blt d n = true)
    (h : VL P ops Q rest n ds w0 ((d, .int .u8 (c.toNat : Int)) :: env) M H) : VL P ops Q (⟨some d, .index t x y, ty, pos, aft, g⟩ :: rest) n ds w0 env M H :=
  VL_v hw hl (fun a w hr hs => by
    subst hi
    simp only [execOp, Instr.index, Sem.run_bind, hT.r_und, Result.andThen_ok, hr.ev hx, hr.ev hy, asIntOf, Sem.run_pure]
    simp [hc]) h
end
end Go.Proofs.YtpboahlpgfglkaaDoor.X
