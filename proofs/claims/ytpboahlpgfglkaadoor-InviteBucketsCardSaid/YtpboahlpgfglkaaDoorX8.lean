/-
  Own library, part 8: results that lie in memory; structs and arrays compared; whole variables read and written; two ways at a draw.
-/
import Derived.Test.YtpboahlpgfglkaaDoorX7
import Derived.Laws.StructEq
import Derived.Laws.BytesArg
namespace Go.Proofs.YtpboahlpgfglkaaDoor.X
open Go Go.RowKit
set_option linter.unusedVariables false
set_option linter.unusedSimpArgs false

section
variable {P : Program} {ops rest : List Oper} {Q : Exit → Act → World → Prop} {n : Nat} {ds : List Deferred} {w0 : World} {env env' : Env} {M M' : Mem} {H H' : List Ent}
  {d ty : Nat} {pos : String} {aft : Array Edge} {g : Option (Nat × Bool)} {x y : Operand} {S : World → Prop}

theorem run_loadA {t : Nat} {dd : TypeDesc} {z : Value} {sz by_ b off : Nat} {cs : List Value} [TI P t dd z sz by_] (hd : dd.isRow = true) (hn : cs.length = sz) {w : World} (hc : At w b off cs) :
    (loadVar t ⟨b, off, none⟩).run P w = .ok (.agg cs.toArray) w := by
  have := run_loadCells_list (P := P) w ⟨b, off, none⟩ cs (fun j v hj => by rw [add_norm]; exact hc j v hj)
  subst hn
  simp [loadVar, TI.r_agg, hd, TI.r_size, this]
/-- the whole of a block of the call's own -/
theorem VL_loadW {t : Nat} {dd : TypeDesc} {z : Value} {sz by_ b T k : Nat} {l : List Value} {fr : Nat × Nat} [TI P t dd z sz by_] (hw : Wanted ops env g) (hd : dd.isRow = true) (hx : evo env x = some (.pointer (some ⟨b, 0, none⟩)))
    (hk : H[k]? = some (Blk b l T fr)) (hn : l.length = sz) (hl : Nat.blt d n = true)
    (h : VL P ops Q rest n ds w0 ((d, .agg l.toArray) :: env) M H) : VL P ops Q (⟨some d, .load t x, ty, pos, aft, g⟩ :: rest) n ds w0 env M H :=
  VL_loadA hw hd hx hn (fun w s => s.atH hk fun j v hj => by simpa using hj) hl h
theorem Y_loadW {t : Nat} {dd : TypeDesc} {z : Value} {sz by_ b T k : Nat} {l : List Value} {fr : Nat × Nat} [TI P t dd z sz by_] (hd : dd.isRow = true) (hx : evo env x = some (.pointer (some ⟨b, 0, none⟩)))
    (hk : H[k]? = some (Blk b l T fr)) (hn : l.length = sz) : Yv P n ds w0 env M H ⟨some d, .load t x, ty, pos, aft, g⟩ (.agg l.toArray) :=
  Y_loadA hd hx hn (fun w s => s.atH hk fun j v hj => by simpa using hj)
theorem VL_storeW {t : Nat} {dd : TypeDesc} {z v : Value} {sz by_ b T k : Nat} {fr : Nat × Nat} {l vs : List Value} [TI P t dd z sz by_] (hw : Wanted ops env g)
    (hx : evo env x = some (.pointer (some ⟨b, 0, none⟩))) (hy : evo env y = some v) (hv : v.cells = vs.toArray) (hn : vs.length = sz) (h1 : vs.all (·.oneCell') = true)
    (hk : H[k]? = some (Blk b l T fr)) (hl : l.length = sz) (hf : NF fr l.length)
    (h : VL P ops Q rest n ds w0 env M (H.set k (Blk b vs T fr))) : VL P ops Q (⟨none, .store t x y, ty, pos, aft, g⟩ :: rest) n ds w0 env M H :=
  VL_storeH hw hx hy hv hn h1 hk (by omega) hf (by rw [splice_all (by omega)]; exact h)

/-- a result that lies in memory, and one in a slot -/
theorem VE_retCT {fn : Func} {R : Ending → World → Prop} {a t u b T k : Nat} {dd : TypeDesc} {z v' : Value} {sz by_ : Nat} {l : List Value} {fr : Nat × Nat} (hr : fn.results = #[.cell a t, .tmp u]) (hT : TI P t dd z sz by_) (hd : dd.isRow = true)
    (ha : look env a = some (.pointer (some ⟨b, 0, none⟩))) (hu : look env u = some v') (hk : H[k]? = some (Blk b l T fr)) (hn : l.length = sz) (h : ∀ w, St w0 M H w → R (.returned (.tuple #[.agg l.toArray, v'])) w) :
    VE (bodyPost P fn R) .ret n [] w0 env M H := ⟨fun ac w hra hs => ⟨hra.df, .tuple #[.agg l.toArray, v'], by
      have h1 := hra.at_ a _ ha
      have h2 := hra.at_ u v' hu
      have h3 := run_loadA (P := P) (t := t) hd hn (hs.atH hk (off := 0) (vs := l) fun j v hj => by simpa using hj)
      simp [results, hr, h1, h2, asAddr, h3], h w hs⟩⟩
theorem VE_retC {fn : Func} {R : Ending → World → Prop} {a t b T k : Nat} {dd : TypeDesc} {z : Value} {sz by_ : Nat} {l : List Value} {fr : Nat × Nat} (hr : fn.results = #[.cell a t]) (hT : TI P t dd z sz by_) (hd : dd.isRow = true)
    (ha : look env a = some (.pointer (some ⟨b, 0, none⟩))) (hk : H[k]? = some (Blk b l T fr)) (hn : l.length = sz) (h : ∀ w, St w0 M H w → R (.returned (.agg l.toArray)) w) :
    VE (bodyPost P fn R) .ret n [] w0 env M H := ⟨fun ac w hra hs => ⟨hra.df, .agg l.toArray, by
      have h1 := hra.at_ a _ ha
      have h3 := run_loadA (P := P) (t := t) hd hn (hs.atH hk (off := 0) (vs := l) fun j v hj => by simpa using hj)
      simp [results, hr, h1, asAddr, h3], h w hs⟩⟩
theorem VE_retCTT {fn : Func} {R : Ending → World → Prop} {a t u s b T k : Nat} {dd : TypeDesc} {z v' v'' : Value} {sz by_ : Nat} {l : List Value} {fr : Nat × Nat} (hr : fn.results = #[.cell a t, .tmp u, .tmp s]) (hT : TI P t dd z sz by_) (hd : dd.isRow = true)
    (ha : look env a = some (.pointer (some ⟨b, 0, none⟩))) (hu : look env u = some v') (hu' : look env s = some v'') (hk : H[k]? = some (Blk b l T fr)) (hn : l.length = sz) (h : ∀ w, St w0 M H w → R (.returned (.tuple #[.agg l.toArray, v', v''])) w) :
    VE (bodyPost P fn R) .ret n [] w0 env M H := ⟨fun ac w hra hs => ⟨hra.df, .tuple #[.agg l.toArray, v', v''], by
      have h1 := hra.at_ a _ ha
      have h2 := hra.at_ u v' hu
      have h4 := hra.at_ s v'' hu'
      have h3 := run_loadA (P := P) (t := t) hd hn (hs.atH hk (off := 0) (vs := l) fun j v hj => by simpa using hj)
      simp [results, hr, h1, h2, h4, asAddr, h3], h w hs⟩⟩

theorem Y_slice_lohi {t e : Nat} {z ze : Value} {sz by_ sze bye len cap : Nat} {de : TypeDesc} {A : Option Addr} {lo hi : Operand} {k k2 : IntKind} {i j : Int} {i' j' : Nat} [hT : TI P t (.slice e) z sz by_] [hE : TI P e de ze sze bye]
    (hx : evo env x = some (.slice A len cap)) (hh : evo env lo = some (.int k i)) (hh2 : evo env hi = some (.int k2 j)) (hi' : i = (i' : Int)) (hj' : j = (j' : Int)) (hb : i' ≤ j') (hb2 : j' ≤ cap) :
    Yv P n ds w0 env M H ⟨some d, .slice t x (some lo) (some hi) none, ty, pos, aft, g⟩ (.slice (if cap = i' then A else A.map (·.add (i' * sze))) (j' - i') (cap - i')) := fun a w hr hs => by
  subst hi' hj'
  simp [execOp, Instr.sliceAt, Instr.slice, Instr.sliceBounds, hr.ev hx, hr.ev hh, hr.ev hh2, hT.r_und, run_bound _ hb, run_bound _ hb2, hE.r_size]

/-! ### == of structs and arrays -/
theorem VL_eqA {t yt : Nat} {xs ys : Array Value} {r : Bool} (hw : Wanted ops env g) (hx : evo env x = some (.agg xs)) (hy : evo env y = some (.agg ys))
    (heq : ∀ w, (Op.equal t (.agg xs) (.agg ys)).run P w = .ok r w) (hg : P.eqGuardType P.depth t = false) (hl : Nat.blt d n = true)
    (h : VL P ops Q rest n ds w0 ((d, .bool r) :: env) M H) : VL P ops Q (⟨some d, .binOp .eql t x y yt, ty, pos, aft, g⟩ :: rest) n ds w0 env M H :=
  VL_v hw hl (fun a w hr hs => by
    simp only [execOp, hr.ev hx, hr.ev hy, Sem.run_bind, run_eqGuard_agg w .eql t x y xs ys hg, Result.andThen_ok, binOp, heq, Sem.run_pure]) h
theorem VL_neA {t yt : Nat} {xs ys : Array Value} {r : Bool} (hw : Wanted ops env g) (hx : evo env x = some (.agg xs)) (hy : evo env y = some (.agg ys))
    (heq : ∀ w, (Op.equal t (.agg xs) (.agg ys)).run P w = .ok r w) (hg : P.eqGuardType P.depth t = false) (hl : Nat.blt d n = true)
    (h : VL P ops Q rest n ds w0 ((d, .bool (!r)) :: env) M H) : VL P ops Q (⟨some d, .binOp .neq t x y yt, ty, pos, aft, g⟩ :: rest) n ds w0 env M H :=
  VL_v hw hl (fun a w hr hs => by
    simp only [execOp, hr.ev hx, hr.ev hy, Sem.run_bind, run_eqGuard_agg w .neq t x y xs ys hg, Result.andThen_ok, binOp, heq, Sem.run_pure]) h
theorem eq_int {d : Nat} {t : TypeId} {k k' : IntKind} {a b : Int} (h : P.underlying t = some (.int k')) (w : World) : (Op.equalIn (d + 1) t (.int k a) (.int k b)).run P w = .ok (decide (a = b)) w :=
  (run_equalIn_int w d t k k' a b h).trans rfl

/-! ### a draw at which several may come up -/
theorem VA_all {fuel : Nat} {listed : Array Bool} {rs : List Nat} (hr : Region.ready .any ops.toArray listed = rs) (hne : rs ≠ [])
    (h : ∀ i ∈ rs, ∃ o, ops[i]? = some o ∧ VL P ops (fun e a w => match e with | .normal => S w ∧ wpAnyH P .any ops.toArray Q S fuel (listed.setIfInBounds i true) a w | e => Q e a w) [o] n ds w0 env M H) : VA P ops Q S (fuel + 1) listed n ds w0 env M H := by
  refine ⟨fun a w hra hsa hSw => ?_⟩
  refine wpAnyH_all hr hne (fun j hj => ?_)
  obtain ⟨o, hi, hv⟩ := h j hj
  have this := hv a w hra hsa
  unfold wpList at this
  unfold wpOp
  simp only [List.getElem?_toArray, hi]
  split at this
  · rename_i hw
    rw [if_pos hw]
    rcases this with this | ⟨h1, a1, w1, h2⟩
    · refine .inl ?_
      unfold Oper.wp at *
      generalize (execOp a.eval o).run P w = r at *
      cases r with
      | ok v w' =>
        cases v <;> simp only [Oper.upon] at this ⊢
        case value => exact this
        case skip => exact this
        case defer => exact this
        case enter f args =>
          refine this.mono fun e w'' he => ?_
          cases e with
          | returned u => exact he
          | panicked c => exact he
          | outgrown => obtain ⟨a1, w1, h2⟩ := he; exact ⟨a1, w1, h2⟩
        case row r args => exact Rows.mono this fun u w'' he => he
      | halt x w' =>
        cases x <;> simp only [Oper.upon] at this ⊢
        case panic u => exact this
    · exact .inr ⟨h1, a1, w1, h2⟩
  · rename_i hw
    rw [if_neg hw]
    exact this
theorem VA_two {fuel : Nat} {listed : Array Bool} (i j : Nat) {o o' : Oper} (hi : ops[i]? = some o) (hj : ops[j]? = some o') (hr : Region.ready .any ops.toArray listed = [i, j])
    (h : VL P ops (fun e a w => match e with | .normal => S w ∧ wpAnyH P .any ops.toArray Q S fuel (listed.setIfInBounds i true) a w | e => Q e a w) [o] n ds w0 env M H)
    (h' : VL P ops (fun e a w => match e with | .normal => S w ∧ wpAnyH P .any ops.toArray Q S fuel (listed.setIfInBounds j true) a w | e => Q e a w) [o'] n ds w0 env M H) : VA P ops Q S (fuel + 1) listed n ds w0 env M H :=
  VA_all hr (by simp) (fun k hk => by
    rcases List.mem_cons.1 hk with rfl | hk
    · exact ⟨o, hi, h⟩
    · obtain rfl := List.mem_singleton.1 hk; exact ⟨o', hj, h'⟩)
end
section
variable {P : Program} {ops rest : List Oper} {Q : Exit → Act → World → Prop} {n : Nat} {ds : List Deferred} {w0 : World} {env env' : Env} {M M' : Mem} {H H' : List Ent}
  {d ty : Nat} {pos : String} {aft : Array Edge} {g : Option (Nat × Bool)} {x y : Operand}
theorem VL_ifNil_t {t yt : Nat} {ms : Array (String × Nat)} {z : Value} {sz by_ : Nat} [hT : TI P t (.interface ms) z sz by_] (hw : Wanted ops env g) (hx : evo env x = some .nilIface) (hl : Nat.blt d n = true)
    (h : VL P ops Q rest n ds w0 ((d, .bool true) :: env) M H) : VL P ops Q (⟨some d, .binOp .eql t x (.const .nilIface) yt, ty, pos, aft, g⟩ :: rest) n ds w0 env M H :=
  VL_v hw hl (fun a w hr hs => by
    have key : (Op.equal t .nilIface .nilIface).run P w = .ok true w := by
      show (Op.equalIn (9999 + 1) t .nilIface .nilIface).run P w = _
      rw [Op.equalIn, Sem.run_bind, hT.r_und]
      rfl
    have e2 : a.eval (.const .nilIface) = .nilIface := rfl
    simp only [execOp, hr.ev hx, e2, Sem.run_bind, binOp, key, Result.andThen_ok, Sem.run_pure]
    simp [eqGuard]
    rw [key]; rfl) h
theorem VL_ifNil_f {t yt t' : Nat} {v : Value} {ms : Array (String × Nat)} {z : Value} {sz by_ : Nat} [hT : TI P t (.interface ms) z sz by_] (hw : Wanted ops env g) (hx : evo env x = some (.iface t' v)) (hl : Nat.blt d n = true)
    (h : VL P ops Q rest n ds w0 ((d, .bool false) :: env) M H) : VL P ops Q (⟨some d, .binOp .eql t x (.const .nilIface) yt, ty, pos, aft, g⟩ :: rest) n ds w0 env M H :=
  VL_v hw hl (fun a w hr hs => by
    have key : (Op.equal t (.iface t' v) .nilIface).run P w = .ok false w := by
      show (Op.equalIn (9999 + 1) t (.iface t' v) .nilIface).run P w = _
      rw [Op.equalIn, Sem.run_bind, hT.r_und]
      rfl
    have e2 : a.eval (.const .nilIface) = .nilIface := rfl
    simp only [execOp, hr.ev hx, e2, Sem.run_bind, binOp, key, Result.andThen_ok, Sem.run_pure]
    simp [eqGuard]
    rw [key]; rfl) h
end
section
variable {P : Program} {ops rest : List Oper} {Q : Exit → Act → World → Prop} {n : Nat} {ds : List Deferred} {w0 : World} {env env' : Env} {M M' : Mem} {H H' : List Ent}
  {d ty : Nat} {pos : String} {aft : Array Edge} {g : Option (Nat × Bool)} {x y : Operand}
theorem VL_outU {op : Op} {j t : Nat} {want : Bool} (hj : (ops[j]?).bind (·.dst) = some t) (hv : look env t = some undef) (hl : Nat.blt d n = true)
    (h : VL P ops Q rest n ds w0 ((d, undef) :: env) M H) : VL P ops Q (⟨some d, op, ty, pos, aft, some (j, want)⟩ :: rest) n ds w0 env M H := by
  refine ⟨fun a w hr hs => ?_⟩
  have h3 := hr.at_ _ _ hv
  have : Region.wanted ⟨some d, op, ty, pos, aft, some (j, want)⟩ (yielded ops.toArray a.tmps) = false := by
    simp [Region.wanted, yielded, hj, h3, undef]
  unfold wpList
  rw [this]
  simp only [Bool.false_eq_true, if_false]
  exact h _ _ (hr.put hl) hs
/-- a list of bytes that a string's bytes were laid in: the place behind it is marked -/
theorem upd_mark {w : World} {b T : Nat} {l : List Value} (hg : w.heap[b]? = some (.cells l.toArray T (0, 0))) : Upd w b (.cells l.toArray T (l.length, l.length + 1)) (w.freeze ⟨b, l.length, none⟩ 1) := by
  have hlt := lt_of_some hg
  unfold World.freeze
  rw [if_neg (by decide)]
  refine ⟨rfl, rfl, rfl, by simp, ?_, fun c hc => ?_⟩
  · show (w.heap.modify b _)[b]? = _
    rw [Array.getElem?_modify, if_pos rfl, hg]; rfl
  · show (w.heap.modify b _)[c]? = _
    rw [Array.getElem?_modify, if_neg (fun e => hc e.symm)]
theorem VL_convMark {t e b k len cap T : Nat} {l : List Value} {z ze : Value} {sz by_ sze bye : Nat} [hT : TI P t (.slice e) z sz by_] [hE : TI P e (.int .u8) ze sze bye] (hw : Wanted ops env g)
    (hx : evo env x = some (.slice (some ⟨b, 0, none⟩) len cap)) (hk : H[k]? = some (Blk b l T (0, 0))) (hl : Nat.blt d n = true)
    (h : VL P ops Q rest n ds w0 ((d, .slice (some ⟨b, 0, none⟩) len cap) :: env) M (H.set k (Blk b l T (l.length, l.length + 1)))) :
    VL P ops Q (⟨some d, .convert t t x, ty, pos, aft, g⟩ :: rest) n ds w0 env M H :=
  VL_w (ι := Unit) (J := fun _ => True) (V := fun _ => .slice (some ⟨b, 0, none⟩) len cap) (M' := fun _ => M) (H' := fun _ => H.set k (Blk b l T (l.length, l.length + 1))) hw hl (fun a w hr hs => by
    have hg := (hs.new k b _ hk).2
    refine ⟨(), _, ?_, trivial, hs.updH hk (upd_mark hg)⟩
    have hsh : w.shape? b = some (T, l.length) := by unfold World.shape?; rw [hg]; simp
    simp [execOp, convert, hr.ev hx, hT.r_und, hE.r_und, markStringish, hsh]) (fun _ _ => h)
theorem strOf_u8 (l : List UInt8) : strOfNums (l.map fun c => (c.toNat : Int)) = ⟨l.toArray⟩ := by
  unfold strOfNums
  congr 2
  rw [List.map_map]
  conv => rhs; rw [← List.map_id l]
  exact List.map_congr_left fun c _ => by simp
/-- a list of bytes becomes a string -/
theorem VL_convStr {t t2 e b off len cap : Nat} {l : List UInt8} {z ze z2 : Value} {sz by_ sze bye sz2 by2 : Nat} [hT : TI P t (.slice e) z sz by_] [hE : TI P e (.int .u8) ze sze bye] [hS : TI P t2 .string z2 sz2 by2] (hw : Wanted ops env g)
    (hx : evo env x = some (.slice (some ⟨b, off, none⟩) len cap)) (hlen : l.length = len) (hrd : ∀ w, St w0 M H w → At w b off (l.map u8)) (hl : Nat.blt d n = true)
    (h : VL P ops Q rest n ds w0 ((d, .string ⟨l.toArray⟩) :: env) M H) :
    VL P ops Q (⟨some d, .convert t t2 x, ty, pos, aft, g⟩ :: rest) n ds w0 env M H :=
  VL_v hw hl (fun a w hr hs => by
    have q := run_convert_bytes_arg (P := P) w t e hT.und hE.und b off len cap (l.map fun c => (c.toNat : Int)) (by simpa using hlen) (fun i hi => by
      have hi' : i < l.length := by omega
      have := hrd w hs i (u8 l[i]) (by simp [List.getElem?_eq_getElem hi'])
      rw [this]
      simp [List.getD, List.getElem?_eq_getElem hi']) t2 hS.und
    rw [strOf_u8] at q
    simp only [execOp, hr.ev hx, Sem.run_bind, q, Result.andThen_ok, Sem.run_pure]) h
theorem VL_eqS {t yt : Nat} {s : ByteArray} {z : Value} {sz by_ : Nat} [hT : TI P t .string z sz by_] (hw : Wanted ops env g) (hx : evo env x = some (.string s)) (hy : evo env y = some (.string s)) (hl : Nat.blt d n = true)
    (h : VL P ops Q rest n ds w0 ((d, .bool true) :: env) M H) : VL P ops Q (⟨some d, .binOp .eql t x y yt, ty, pos, aft, g⟩ :: rest) n ds w0 env M H :=
  VL_v hw hl (fun a w hr hs => by
    have key : (Op.stringOp .eql s s).run P w = .ok (.bool true) w := by
      simp [Op.stringOp]
    simp only [execOp, hr.ev hx, hr.ev hy, Sem.run_bind, binOp, key, Result.andThen_ok, Sem.run_pure]
    simp [eqGuard]
    rw [key]; rfl) h
theorem run_eqB {t : Nat} {z : Value} {sz by_ : Nat} [hT : TI P t .bool z sz by_] (a b : Bool) (w : World) : (Op.equal t (.bool a) (.bool b)).run P w = .ok (a == b) w := by
  show (Op.equalIn (9999 + 1) t (.bool a) (.bool b)).run P w = _
  rw [Op.equalIn, Sem.run_bind, hT.r_und]
  rfl
theorem VL_eqB {t yt : Nat} {a b : Bool} {z : Value} {sz by_ : Nat} [hT : TI P t .bool z sz by_] (hw : Wanted ops env g) (hx : evo env x = some (.bool a)) (hy : evo env y = some (.bool b)) (hl : Nat.blt d n = true)
    (h : VL P ops Q rest n ds w0 ((d, .bool (a == b)) :: env) M H) : VL P ops Q (⟨some d, .binOp .eql t x y yt, ty, pos, aft, g⟩ :: rest) n ds w0 env M H :=
  VL_v hw hl (fun w0 w hr hs => by
    have key := run_eqB (P := P) (t := t) a b w
    simp only [execOp, hr.ev hx, hr.ev hy, Sem.run_bind, binOp, key, Result.andThen_ok, Sem.run_pure]
    simp [eqGuard]
    rw [key]; rfl) h
theorem VL_neB {t yt : Nat} {a b : Bool} {z : Value} {sz by_ : Nat} [hT : TI P t .bool z sz by_] (hw : Wanted ops env g) (hx : evo env x = some (.bool a)) (hy : evo env y = some (.bool b)) (hl : Nat.blt d n = true)
    (h : VL P ops Q rest n ds w0 ((d, .bool (!(a == b))) :: env) M H) : VL P ops Q (⟨some d, .binOp .neq t x y yt, ty, pos, aft, g⟩ :: rest) n ds w0 env M H :=
  VL_v hw hl (fun w0 w hr hs => by
    have key := run_eqB (P := P) (t := t) a b w
    simp only [execOp, hr.ev hx, hr.ev hy, Sem.run_bind, binOp, key, Result.andThen_ok, Sem.run_pure]
    simp [eqGuard]
    rw [key]; rfl) h
end
theorem VE_ret4 {P : Program} {n : Nat} {w0 : World} {env : Env} {M : Mem} {H : List Ent} {fn : Func} {R : Ending → World → Prop} {t u s q : Nat} {v v' v'' v3 : Value} (hr : fn.results = #[.tmp t, .tmp u, .tmp s, .tmp q]) (hv : look env t = some v) (hv' : look env u = some v') (hv'' : look env s = some v'') (hv3 : look env q = some v3)
    (h : ∀ w, St w0 M H w → R (.returned (.tuple #[v, v', v'', v3])) w) :
    VE (bodyPost P fn R) .ret n [] w0 env M H := ⟨fun a w hra hs => ⟨hra.df, .tuple #[v, v', v'', v3], by
      have := hra.at_ t v hv
      have := hra.at_ u v' hv'
      have := hra.at_ s v'' hv''
      have := hra.at_ q v3 hv3
      simp [results, *], h w hs⟩⟩
/-- a list of bytes, as it lies in a list of lists -/
structure Row where
  A : Option Addr
  c : Nat
  l : List UInt8
def Row.val (r : Row) : Value := .slice r.A r.l.length r.c
theorem get_row {rows : List Row} {i : Nat} {r : Row} (h : rows[i]? = some r) : (rows.map Row.val)[i]? = some r.val := by simp [h]
theorem all_row (rows : List Row) : (rows.map Row.val).all (·.oneCell') = true := by simp [Row.val, Value.oneCell']
structure RdRows (w : World) (A : Option Addr) (rows : List Row) : Prop where
  rd : Rd w A (rows.map Row.val)
  each : ∀ r ∈ rows, Rd w r.A (r.l.map u8)
theorem St.rdRows {w0 w : World} {H : List Ent} (s : St w0 [] H w) {A : Option Addr} {rows : List Row} (h : RdRows w0 A rows) : RdRows w A rows := ⟨s.rd h.rd, fun r hr => s.rd (h.each r hr)⟩
def cat (rows : List Row) : List UInt8 := (rows.map Row.l).flatten
theorem cat_take {rows : List Row} {k : Nat} {r : Row} (h : rows[k]? = some r) : cat (rows.take (k + 1)) = cat (rows.take k) ++ r.l := by
  have : rows.take (k + 1) = rows.take k ++ [r] := by rw [List.take_add_one, h]; rfl
  rw [this]; simp [cat]
theorem cat_le {rows : List Row} {k : Nat} {r : Row} (h : rows[k]? = some r) : (cat (rows.take k)).length + r.l.length ≤ (cat rows).length := by
  rw [← List.length_append, ← cat_take h]
  have h2 : cat rows = cat (rows.take (k + 1)) ++ cat (rows.drop (k + 1)) := by
    unfold cat
    rw [← List.flatten_append, ← List.map_append, List.take_append_drop]
  rw [h2, List.length_append]; omega
end Go.Proofs.YtpboahlpgfglkaaDoor.X
