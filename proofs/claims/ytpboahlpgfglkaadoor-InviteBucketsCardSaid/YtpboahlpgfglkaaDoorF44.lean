/-
  SHA-256 by the program: a new hash, what is written to it (one block at most).
-/
import Derived.Test.YtpboahlpgfglkaaDoorF43
namespace Go.Proofs.YtpboahlpgfglkaaDoor.X
open Go Go.RowKit
set_option linter.unusedVariables false
set_option linter.unusedSimpArgs false
set_option maxRecDepth 100000

section
variable {P : Program} {ops rest : List Oper} {Q : Exit → Act → World → Prop} {n : Nat} {ds : List Deferred} {w0 : World} {env env' : Env} {M M' : Mem} {H H' : List Ent}
  {d ty : Nat} {pos : String} {aft : Array Edge} {g : Option (Nat × Bool)} {x y : Operand}
/-- copy, into a block that is older -/
theorem VL_copyM {t tx e T : Nat} {z ze : Value} {sz by_ bye dl dc c2 p m b off : Nat} {de : TypeDesc} {l news : List Value} {fr : Nat × Nat} {A2 : Option Addr} [hT : TI P t (.slice e) z sz by_] [hE : TI P e de ze 1 bye] (hw : Wanted ops env g)
    (hx : evo env x = some (.slice (some ⟨b, off, none⟩) dl dc)) (hy : evo env y = some (.slice A2 m c2)) (hp : M[p]? = some (b, .cells l.toArray T fr)) (hf : NF fr l.length) (hdl : off + dl ≤ l.length)
    (hm : m = news.length) (hrd : ∀ w, St w0 M H w → Rd w A2 news) (h2 : news.all (·.oneCell') = true) (hl : Nat.blt d n = true)
    (h : VL P ops Q rest n ds w0 ((d, .int .i64 ((Nat.min m dl : Nat) : Int)) :: env) (M.set p (b, .cells (splice l off (news.take dl)).toArray T fr)) H) :
    VL P ops Q (⟨some d, .call { callee := .builtin .copy, args := #[x, y], argTypes := #[t, tx] }, ty, pos, aft, g⟩ :: rest) n ds w0 env M H := by
  subst hm
  refine VL_w (ι := Unit) (J := fun _ => True) (V := fun _ => .int .i64 ((Nat.min news.length dl : Nat) : Int)) (M' := fun _ => M.set p (b, .cells (splice l off (news.take dl)).toArray T fr)) (H' := fun _ => H) hw hl ?_ (fun _ _ => h)
  intro a w hr hs
  have hg := (hs.mold p b _ hp).2
  obtain ⟨w', r, u⟩ := run_storeCells (P := P) (o := off) (news.take dl) 0 l w hg (by have := List.length_take_le dl news; omega) hf (fun v hv => List.all_eq_true.1 h2 v (List.mem_of_mem_take hv))
  have hlen : (news.take dl).length = Nat.min news.length dl := by rw [List.length_take, Nat.min_comm]
  have hfirst : (Builtin.firstCells 1 (Nat.min news.length dl) (.slice A2 news.length c2)).run P w = .ok (news.take dl).toArray w := by
    rcases hrd w hs with rfl | ⟨b2, off2, rfl, hat⟩
    · cases A2 with
      | none => simp [Builtin.firstCells]
      | some a => simpa using run_firstCells_some (P := P) w 1 0 a 0 c2 [] (by simp) (fun j u hj => by simp at hj)
    · refine run_firstCells_some (P := P) w 1 _ ⟨b2, off2, none⟩ _ _ (news.take dl) (by rw [hlen, Nat.mul_one]) (fun j u hj => ?_)
      rw [add_norm]
      refine hat j u ?_
      rw [List.getElem?_take] at hj
      split at hj
      · exact hj
      · simp at hj
  refine ⟨(), w', ?_, trivial, hs.updM hp (by simpa using u)⟩
  simp only [execOp, resolve, invoke, builtin, Builtin.copy_, Sem.run_bind, Sem.run_pure, Result.andThen_ok, List.map_toArray, List.map_cons, List.map_nil, hr.ev hx, hr.ev hy, List.getElem?_toArray, List.getElem?_cons_zero, List.getElem?_cons_succ, hT.r_und, Builtin.lenOf, hE.r_size, hfirst, r, goInt]
end

theorem hv_length {sl : List UInt32} {bl : List UInt8} {u : Int} {z : UInt64} (hs : sl.length = 8) (hb : bl.length = 64) : (hv sl bl u z).length = 74 := by simp [hv, hs, hb]
theorem hv_u {sl : List UInt32} {bl : List UInt8} {u : Int} {z : UInt64} (hs : sl.length = 8) (hb : bl.length = 64) : (hv sl bl u z)[0 + 72]? = some (i64 u) := by
  unfold hv
  rw [List.getElem?_append_right (by simp [hs]), List.length_map, hs, List.getElem?_append_right (by simp [hb]), List.length_map, hb]
  rfl
theorem hv_z {sl : List UInt32} {bl : List UInt8} {u : Int} {z : UInt64} (hs : sl.length = 8) (hb : bl.length = 64) : (hv sl bl u z)[0 + 73]? = some (u64 z) := by
  unfold hv
  rw [List.getElem?_append_right (by simp [hs]), List.length_map, hs, List.getElem?_append_right (by simp [hb]), List.length_map, hb]
  rfl
theorem hv_setu {sl : List UInt32} {bl : List UInt8} {u x : Int} {z : UInt64} (hs : sl.length = 8) (hb : bl.length = 64) : (hv sl bl u z).set (0 + 72) (i64 x) = hv sl bl x z := by
  unfold hv
  rw [List.set_append_right _ _ (by simp [hs]), List.length_map, hs, List.set_append_right _ _ (by simp [hb]), List.length_map, hb]
  rfl
theorem hv_setz {sl : List UInt32} {bl : List UInt8} {u : Int} {z x : UInt64} (hs : sl.length = 8) (hb : bl.length = 64) : (hv sl bl u z).set (0 + 73) (u64 x) = hv sl bl u x := by
  unfold hv
  rw [List.set_append_right _ _ (by simp [hs]), List.length_map, hs, List.set_append_right _ _ (by simp [hb]), List.length_map, hb]
  rfl
theorem hv_state {sl : List UInt32} {bl : List UInt8} {u : Int} {z : UInt64} (hs : sl.length = 8) (v : V8) : splice (hv sl bl u z) (0 + 0) v.cells = hv v.l bl u z := by
  have : (sl.map u32).length = 8 := by simp [hs]
  simp only [splice, hv, Nat.add_zero, List.take_zero, List.nil_append, Nat.zero_add]
  rw [show v.cells.length = 8 from rfl, List.drop_append_of_le_length (by omega), List.drop_of_length_le (by omega)]
  rfl
def fill (bl : List UInt8) (k : Nat) (l : List UInt8) : List UInt8 := bl.take k ++ (l ++ bl.drop (k + l.length))
theorem fill_length {bl : List UInt8} {k : Nat} {l : List UInt8} (h : k + l.length ≤ bl.length) : (fill bl k l).length = bl.length := by simp [fill]; omega
theorem hv_fill {sl : List UInt32} {bl : List UInt8} {u : Int} {z : UInt64} {k : Nat} {l : List UInt8} (hs : sl.length = 8) (h : k + l.length ≤ bl.length) :
    splice (hv sl bl u z) (0 + 8 + k * 1) (l.map u8) = hv sl (fill bl k l) u z := by
  have hm : (sl.map u32).length = 8 := by simp [hs]
  have hk : (bl.map u8).length = bl.length := by simp
  simp only [splice, hv, fill, Nat.zero_add, Nat.mul_one, List.length_map]
  rw [List.take_append, List.drop_append, List.take_append, List.drop_append, hm, hk, List.take_of_length_le (by omega), List.drop_of_length_le (l := sl.map u32) (by omega), show 8 + k - 8 = k by omega, show 8 + k + l.length - 8 = k + l.length by omega,
    show k - bl.length = 0 by omega, show k + l.length - bl.length = 0 by omega, List.take_zero, List.drop_zero, List.append_nil, List.nil_append, List.map_append, List.map_append, List.map_take, List.map_drop]
  simp only [List.append_assoc]

def newCells : List Value := hv (List.replicate 8 0) (List.replicate 64 0) 0 0
theorem reset (w : World) (hb : Nat) (sl : List UInt32) (bl : List UInt8) (used : Int) (size : UInt64) (hb0 : w.heap[hb]? = some (hobj sl bl used size)) (hsl : sl.length = 8) (hbl : bl.length = 64) (hF : At w 1 0 I0.cells) (hne : 1 ≠ hb) :
    Calls Tryd.prog 95 #[.pointer (some ⟨hb, 0, none⟩)] w (Ret fun v w' => v = .tuple #[] ∧ St w [(hb, hobj I0.l bl 0 0)] [] w') := by
  refine enterM (args := [_]) (M := [(hb, hobj sl bl used size)]) Tryd.func95 rfl rfl rfl (St.one hb0) ?_
  repeat (first | refine st ?_ | (refine sa ?_; intro _))
  apply VL_loadA (cs := I0.cells); exact .none; exact rfl; exact rfl; exact rfl; exact fun w s j v hj => s.oldcell (hF j v hj) (by simpa using hne); exact rfl
  repeat (first | refine st ?_ | (refine sa ?_; intro _))
  apply VL_storeM (k := 0) (vs := I0.cells); exact .none; exact rfl; exact rfl; exact rfl; exact rfl; exact rfl; exact rfl; (rw [hv_length hsl hbl]; decide); exact NF.zero _
  rw [hv_state hsl]
  repeat (first | refine st ?_ | (refine sa ?_; intro _))
  apply VL_storeM1 (k := 0); exact .none; exact rfl; exact rfl; exact rfl; exact rfl; (rw [hv_length rfl hbl]; decide); exact NF.zero _
  rw [hv_setu rfl hbl]
  repeat (first | refine st ?_ | (refine sa ?_; intro _))
  apply VL_storeM1 (k := 0); exact .none; exact rfl; exact rfl; exact rfl; exact rfl; (rw [hv_length rfl hbl]; decide); exact NF.zero _
  have e : (hv I0.l bl 0 size).set (0 + 73) (.int .u64 0) = hv I0.l bl 0 0 := hv_setz (x := 0) rfl hbl
  rw [e]
  repeat (first | refine st ?_ | (refine sa ?_; intro _))
  exact VE_end0 rfl (fun w s => ⟨_, rfl, rfl, s⟩)
theorem newHash (w : World) (hF : At w 1 0 I0.cells) :
    Calls Tryd.prog 81 #[] w (Ret fun v w' => ∃ b, v = .pointer (some ⟨b, 0, none⟩) ∧ St w [] [some (b, hobj I0.l (List.replicate 64 0) 0 0)] w') := by
  refine enter (args := []) Tryd.func81 rfl rfl rfl ?_
  repeat (first | refine st ?_ | (refine sa ?_; intro _))
  refine VL_build (v := .agg newCells.toArray) .none rfl (fun w => by kernel_rfl) rfl ?_
  repeat (first | refine st ?_ | (refine sa ?_; intro _))
  rename_i b
  apply VL_call; exact .none; exact rfl; exact rfl
  · intro w1 s
    have hlt : 1 < w.heap.size := cell_lt (hF 0 _ rfl)
    have hn := s.new 0 b _ rfl
    exact reset w1 b (List.replicate 8 0) (List.replicate 64 0) 0 0 hn.2 rfl rfl (s.at_ hF) (by omega)
  rintro w1 v w2 s ⟨rfl, t⟩
  refine ⟨_, _, s.comp1 (k := 0) rfl t, ?_⟩
  repeat (first | refine st ?_ | (refine sa ?_; intro _))
  exact VE_ret1 rfl rfl (fun w s => ⟨_, rfl, b, rfl, s⟩)

set_option maxHeartbeats 10000000 in
theorem write_ok (w : World) (hb : Nat) (sv : V8) (bl : List UInt8) (used : Nat) (size : UInt64) (A : Option Addr) (ca : Nat) (l : List UInt8) (hb0 : w.heap[hb]? = some (hobj sv.l bl used size)) (hbl : bl.length = 64)
    (hT : At w 2 0 (Kt.map u32)) (h2 : 2 ≠ hb) (hA : Rd w A (l.map u8)) (hne : ∀ a, A = some a → a.block ≠ hb) (h0 : 0 < l.length) (hu : used + l.length ≤ 64) :
    Calls Tryd.prog 82 #[.pointer (some ⟨hb, 0, none⟩), .slice A l.length ca] w (Ret fun v w' => v = .tuple #[i64 (l.length : Int), .nilIface] ∧
      St w [(hb, if used + l.length = 64 then hobj (compress Kt sv (fill bl used l)) (fill bl used l) 0 (size + UInt64.ofNat l.length) else hobj sv.l (fill bl used l) ((used : Int) + (l.length : Int)) (size + UInt64.ofNat l.length))] [] w') := by
  obtain ⟨fin, hfin⟩ : ∃ fin, fin = if used + l.length = 64 then hobj (compress Kt sv (fill bl used l)) (fill bl used l) 0 (size + UInt64.ofNat l.length) else hobj sv.l (fill bl used l) ((used : Int) + (l.length : Int)) (size + UInt64.ofNat l.length) := ⟨_, rfl⟩
  rw [← hfin]
  have hfl : (fill bl used l).length = 64 := by rw [fill_length (by omega), hbl]
  refine enterM (args := [_, _]) (M := [(hb, hobj sv.l bl used size)]) Tryd.func82 rfl rfl rfl (St.one hb0) ?_
  repeat (first | refine st ?_ | (refine sa ?_; intro _))
  apply VL_load; exact .none; exact rfl; exact rfl; exact fun w2 s2 => s2.mcell (k := 0) rfl (hv_z rfl hbl); exact rfl
  repeat (first | refine st ?_ | (refine sa ?_; intro _))
  apply VL_storeM1 (k := 0); exact .none; exact rfl; exact rfl; exact rfl; exact rfl; (rw [hv_length rfl hbl]; decide); exact NF.zero _
  rw [hv_setz rfl hbl]
  obtain ⟨z, hz⟩ : ∃ z, z = size + UInt64.ofNat l.length := ⟨_, rfl⟩
  rw [← hz] at hfin ⊢
  repeat (first | refine st ?_ | (refine sa ?_; intro _))
  refine VC_loop ⟨fun i : Bool × Option Addr × Nat × Nat => (i.1 = false → i.2.1 = A ∧ i.2.2.1 = l.length ∧ i.2.2.2 = ca) ∧ (i.1 = true → i.2.2.1 = 0), fun i => [(0, .pointer (some ⟨hb, 0, none⟩)), (1, .slice A l.length ca), (6, .slice i.2.1 i.2.2.1 i.2.2.2)], fun i => [(hb, bif i.1 then fin else hobj sv.l bl used z)], fun _ => []⟩ (fun i => bif i.1 then 0 else 1) (false, A, l.length, ca) ⟨fun _ => ⟨rfl, rfl, rfl⟩, fun h => by simp at h⟩ ⟨rfl, rfl, rfl, trivial⟩ (fun _ s => s) ?_
  rintro ⟨j, A', n', c'⟩ ⟨hj0, hj1⟩
  dsimp only at hj0 hj1 ⊢
  cases j with
  | true =>
    have := hj1 rfl
    subst this
    dsimp only [cond_true]
    repeat (first | refine st ?_ | (refine sa ?_; intro _))
    exact VE_ret2 rfl rfl rfl (fun w s => ⟨_, rfl, rfl, s⟩)
  | false =>
    obtain ⟨hj1, hj2, hj3⟩ := hj0 rfl
    subst hj1 hj2 hj3
    dsimp only [cond_false]
    repeat (first | refine st ?_ | (refine sa ?_; intro _))
    refine VC_draw (S := fun w' => ∃ b' : {b : List UInt8 // b.length = 64}, St w [(hb, hobj sv.l b'.1 used z)] [] w') mixed (fun _ s => ⟨⟨bl, hbl⟩, s⟩) ?_
    refine tkm 0 ?_
    refine tkm 1 ?_
    refine tkm 2 ?_
    refine tkm 3 ?_
    refine tkm 4 ?_
    refine tkm 5 ?_
    refine tkm 6 ?_ (hS := by intro w1 h1; obtain ⟨c1, h1⟩ := h1; refine ⟨_, _, h1, ?_⟩; apply Y_load; exact rfl; exact rfl; intro w2 s2; exact s2.mcell (k := 0) rfl (hv_u rfl c1.2))
    refine tkm 8 ?_
    apply VA_step 7; exact rfl; kernel_rfl
    apply VL_slice_arr (i' := used) (j' := 64); exact .none; exact rfl; exact .inr ⟨_, _, rfl, rfl⟩; exact .inl ⟨rfl, rfl⟩; omega; omega; exact rfl
    intro off' hoff
    obtain rfl : off' = 0 + 8 + used * 1 := by omega
    refine VL_nil (VA_back (fun w s => ⟨⟨bl, hbl⟩, s⟩) ?_)
    apply VA_step 9; exact rfl; kernel_rfl
    apply VL_copyM (p := 0) (news := l.map u8); exact .none; exact rfl; exact rfl; exact rfl; exact NF.zero _; (rw [hv_length rfl hbl]; omega); (rw [List.length_map]); exact fun w s => s.rdM hA (fun a ha => by simpa using hne a ha); exact all_u8 _; exact rfl
    rw [show Nat.min l.length (64 - used) = l.length from Nat.min_eq_left (by omega), List.take_of_length_le (by rw [List.length_map]; omega), hv_fill rfl (by omega)]
    refine VL_nil (VA_back (fun w s => ⟨⟨_, hfl⟩, s⟩) ?_)
    refine tkm 10 ?_
    refine VA_done (by kernel_rfl) ?_
    repeat (first | refine st ?_ | (refine sa ?_; intro _))
    apply VL_load; exact .none; exact rfl; exact rfl; exact fun w2 s2 => s2.mcell (k := 0) rfl (hv_u rfl hfl); exact rfl
    repeat (first | refine st ?_ | (refine sa ?_; intro _))
    apply VL_storeM1 (k := 0); exact .none; exact rfl; exact rfl; exact rfl; exact rfl; (rw [hv_length rfl hfl]; decide); exact NF.zero _
    rw [hv_setu rfl hfl]
    repeat (first | refine st ?_ | (refine sa ?_; intro _))
    apply VL_slice_lo; exact .none; exact rfl; exact rfl; exact rfl; exact Nat.le_refl _; exact rfl
    intro A2 hA2
    repeat (first | refine st ?_ | (refine sa ?_; intro _))
    apply VL_load; exact .none; exact rfl; exact rfl; exact fun w2 s2 => s2.mcell (k := 0) rfl (hv_u rfl hfl); exact rfl
    by_cases h64 : used + l.length = 64
    · rw [if_pos h64] at hfin
      repeat (first | refine st ?_ | (refine sa ?_; intro _))
      apply VL_call; exact .none; exact rfl; exact rfl
      · intro w1 s
        exact round w1 hb sv (fill bl used l) _ z Kt Kt_length (s.mold 0 hb _ rfl).2 hfl (fun j v hj => s.oldcell (hT j v hj) (by simpa using h2)) h2
      rintro w1 v w2 s ⟨rfl, t⟩
      refine ⟨_, _, s.compM (k := 0) rfl t, ?_⟩
      repeat (first | refine st ?_ | (refine sa ?_; intro _))
      apply VL_storeM1 (k := 0); exact .none; exact rfl; exact rfl; exact rfl; exact rfl; (rw [hv_length (compress_length _ _ _) hfl]; decide); exact NF.zero _
      rw [hv_setu (compress_length _ _ _) hfl]
      repeat (first | refine st ?_ | (refine sa ?_; intro _))
      refine VE_fam (true, A2, 0, c' - l.length) ⟨fun h => by simp at h, fun _ => rfl⟩ (by simp) ⟨rfl, rfl, by rw [Nat.sub_self]; rfl, trivial⟩ (fun w5 s5 => ?_)
      rw [hfin]
      exact s5
    · rw [if_neg h64] at hfin
      repeat (first | refine st ?_ | (refine sa ?_; intro _))
      refine VE_fam (true, A2, 0, c' - l.length) ⟨fun h => by simp at h, fun _ => rfl⟩ (by simp) ⟨rfl, rfl, by rw [Nat.sub_self]; rfl, trivial⟩ (fun w5 s5 => ?_)
      rw [hfin]
      exact s5

theorem hv_one (sl : List UInt32) (bl : List UInt8) (u : Int) (z : UInt64) : (hv sl bl u z).all (·.oneCell') = true := by
  unfold hv
  rw [List.all_append, List.all_append, all_u32, all_u8]
  rfl
theorem Rd.lt {w : World} {A : Option Addr} {vs : List Value} (h : Rd w A vs) (h0 : 0 < vs.length) : ∀ a, A = some a → a.block < w.heap.size := by
  rintro a rfl
  rcases h with rfl | ⟨b, off, e, h⟩
  · simp at h0
  · cases e
    exact cell_lt (h 0 _ (List.getElem?_eq_getElem h0))
def pad20 : List UInt8 := [128] ++ List.replicate 11 0 ++ be8
def padT (n : Nat) : List UInt8 := [128] ++ List.replicate 11 0 ++ be8.take n ++ List.replicate (116 - n) 0
theorem padT_set {n : Nat} (h : n < 8) : ((padT n).map u8).set (12 + n) (u8 (be8.getD n 0)) = (padT (n + 1)).map u8 := by
  rw [← List.map_set]
  congr 1
  rcases n with _ | _ | _ | _ | _ | _ | _ | _ | n <;> first | rfl | omega
theorem padT_length {n : Nat} (h : n ≤ 8) : (padT n).length = 128 := by simp [padT, be8]; omega

set_option maxHeartbeats 10000000 in
theorem sumHash (w : World) (hb : Nat) (bl : List UInt8) (hA : At w hb 0 (hv I0.l bl 44 (UInt64.ofNat 44))) (hbl : bl.length = 64) (hT : At w 2 0 (Kt.map u32)) :
    Calls Tryd.prog 83 #[.pointer (some ⟨hb, 0, none⟩)] w (Ret fun v w' => v = .agg ((sha (bl.take 44)).map u8).toArray ∧ St w [] [] w') := by
  have htl : 2 < w.heap.size := cell_lt (hT 0 _ rfl)
  have hsha : sha (bl.take 44) = outB (compress Kt I0 (fill bl 44 pad20)) 32 := by
    have : fill bl 44 pad20 = padded (bl.take 44) := by
      unfold fill padded
      rw [show pad20.length = 20 from rfl, List.drop_of_length_le (by omega), List.append_nil]
      rfl
    rw [this]; rfl
  rw [hsha]
  refine enter (args := [_]) Tryd.func83 rfl rfl rfl ?_
  repeat (first | refine st ?_ | (refine sa ?_; intro _))
  rename_i rb
  apply VL_loadA (cs := hv I0.l bl 44 (UInt64.ofNat 44)); exact .none; exact rfl; exact rfl; exact hv_length rfl hbl; exact fun w s => s.at_ hA; exact rfl
  repeat (first | refine st ?_ | (refine sa ?_; intro _))
  rename_i tb
  apply VL_storeW (k := 1) (vs := hv I0.l bl 44 (UInt64.ofNat 44)); exact .none; exact rfl; exact rfl; exact rfl; exact hv_length rfl hbl; exact hv_one _ _ _ _; exact rfl; exact rfl; exact NF.zero _
  repeat (first | refine st ?_ | (refine sa ?_; intro _))
  rename_i pb
  apply VL_storeH1 (k := 2); exact .none; exact rfl; exact rfl; exact rfl; exact rfl; exact (by decide); exact NF.zero _
  repeat (first | refine st ?_ | (refine sa ?_; intro _))
  apply VL_load; exact .none; exact rfl; exact rfl; exact fun w2 s2 => s2.cell (k := 1) rfl (hv_u rfl hbl); exact rfl
  repeat (first | refine st ?_ | (refine sa ?_; intro _))
  apply VL_load; exact .none; exact rfl; exact rfl; exact fun w2 s2 => s2.cell (k := 1) rfl (hv_z rfl hbl); exact rfl
  apply VL_bin; exact .none; exact rfl; exact rfl; exact b64_mul (a := 8); exact rfl
  repeat (first | refine st ?_ | (refine sa ?_; intro _))
  refine VC_loop ⟨fun n : Nat => n ≤ 8, fun n => [(2, .pointer (some ⟨rb, 0, none⟩)), (3, .pointer (some ⟨tb, 0, none⟩)), (4, .pointer (some ⟨pb, 0, none⟩)), (5, i64 12), (6, u64 (8 * UInt64.ofNat 44)), (27, i64 (n : Int))], fun _ => [], fun n => [Blk rb ((List.replicate 32 (0 : UInt8)).map u8) 74, Blk tb (hv I0.l bl 44 (UInt64.ofNat 44)) 132, Blk pb ((padT n).map u8) 133]⟩ (fun n => 8 - n) 0 (by simp) ⟨rfl, rfl, rfl, rfl, rfl, rfl, trivial⟩ (fun _ s => s) ?_
  intro n hn
  dsimp only at hn ⊢
  by_cases h8 : n < 8
  · repeat (first | refine st ?_ | (refine sa ?_; intro _))
    apply VL_bin; exact .none; exact rfl; exact rfl; exact b64_shr (c' := 8 * (7 - n)) (by omega) (by omega); exact rfl
    repeat (first | refine st ?_ | (refine sa ?_; intro _))
    rw [be8_get n h8]
    apply VL_storeH1 (k := 2); exact .none; exact rfl; exact rfl; exact rfl; exact rfl; (rw [List.length_map, padT_length hn]; show 0 + (12 + n) < 128; omega); exact NF.zero _
    repeat (first | refine st ?_ | (refine sa ?_; intro _))
    refine VE_fam (n + 1) (by (try dsimp only); omega) (by (try dsimp only); omega) ⟨rfl, rfl, rfl, rfl, rfl, rfl, trivial⟩ (fun w5 s5 => ?_)
    dsimp only
    rw [← padT_set h8]
    simp only [Nat.zero_add, List.set_cons_zero, List.set_cons_succ] at s5
    exact s5
  have h8' : n = 8 := by omega
  subst h8'
  repeat (first | refine st ?_ | (refine sa ?_; intro _))
  apply VL_slice_arr (i' := 0) (j' := 20); exact .none; exact rfl; exact .inl ⟨rfl, rfl⟩; exact .inr ⟨_, _, rfl, rfl⟩; omega; omega; exact rfl
  intro off' hoff
  obtain rfl : off' = 0 := by omega
  have hfl : (fill bl 44 pad20).length = 64 := by rw [fill_length (by rw [hbl]; decide), hbl]
  apply VL_call; exact .none; exact rfl; exact rfl
  · intro w1 s
    have hn1 := s.new 1 tb _ rfl
    have hrd : Rd w1 (some ⟨pb, 0, none⟩) (pad20.map u8) := by
      have := s.rdH (k := 2) rfl
      rw [show (padT 8).map u8 = pad20.map u8 ++ (List.replicate 108 0).map u8 by rw [← List.map_append]; rfl] at this
      exact this.append
    have := write_ok w1 tb I0 bl 44 (UInt64.ofNat 44) (some ⟨pb, 0, none⟩) 128 pad20 hn1.2 hbl (s.at_ hT) (by omega) hrd (fun a ha e => by cases ha; dsimp only at e; subst e; exact absurd (s.nd 1 2 _ _ _ rfl rfl) (by omega)) (by decide) (by decide)
    rw [if_pos (by decide)] at this
    exact this
  rintro w1 v w2 s ⟨rfl, t⟩
  refine ⟨_, _, s.comp1 (k := 1) rfl t, ?_⟩
  have hc8 := compress_length Kt I0 (fill bl 44 pad20)
  obtain ⟨sl, hsl⟩ : ∃ sl, sl = compress Kt I0 (fill bl 44 pad20) := ⟨_, rfl⟩
  obtain ⟨b2, hb2⟩ : ∃ b2, b2 = fill bl 44 pad20 := ⟨_, rfl⟩
  obtain ⟨z2, hz2⟩ : ∃ z2, z2 = UInt64.ofNat 44 + UInt64.ofNat pad20.length := ⟨_, rfl⟩
  rw [← hsl] at hc8 ⊢
  rw [← hb2] at hfl ⊢
  rw [← hz2]
  repeat (first | refine st ?_ | (refine sa ?_; intro _))
  rename_i xb
  refine VC_loop ⟨fun n : Nat => n ≤ 32, fun n => [(2, .pointer (some ⟨rb, 0, none⟩)), (3, .pointer (some ⟨tb, 0, none⟩)), (8, .pointer (some ⟨xb, 0, none⟩)), (45, i64 (n : Int))], fun _ => [], fun n => [Blk rb ((List.replicate 32 (0 : UInt8)).map u8) 74, Blk tb (hv sl b2 0 z2) 132, Blk pb ((padT 8).map u8) 133, Blk xb ((outF sl n).map u8) 74]⟩ (fun n => 32 - n) 0 (by simp) ⟨rfl, rfl, rfl, rfl, trivial⟩ (fun _ s => s) ?_
  intro n hn
  dsimp only at hn ⊢
  by_cases h32 : n < 32
  · repeat (first | refine st ?_ | (refine sa ?_; intro _))
    apply VL_load; exact .none; exact rfl; exact rfl; exact fun w2 s2 => s2.cell (k := 1) rfl (hv_s (k := n / 4) hc8 (by omega)); exact rfl
    repeat (first | refine st ?_ | (refine sa ?_; intro _))
    apply VL_bin; exact .none; exact rfl; exact rfl; exact b32_shr (c' := 24 - 8 * (n % 4)) (by omega) (by omega); exact rfl
    repeat (first | refine st ?_ | (refine sa ?_; intro _))
    apply VL_storeH1 (k := 3); exact .none; exact rfl; exact rfl; exact rfl; exact rfl; (rw [List.length_map, outF_length sl hn]; omega); exact NF.zero _
    repeat (first | refine st ?_ | (refine sa ?_; intro _))
    refine VE_fam (n + 1) (by (try dsimp only); omega) (by (try dsimp only); omega) ⟨rfl, rfl, rfl, rfl, trivial⟩ (fun w5 s5 => ?_)
    dsimp only
    rw [← outF_set sl h32]
    simp only [Nat.zero_add, List.set_cons_zero, List.set_cons_succ] at s5
    exact s5
  have h32' : n = 32 := by omega
  subst h32'
  rw [outF_32]
  have ho32 := outB_length sl 32
  obtain ⟨o, hoo⟩ : ∃ o, o = outB sl 32 := ⟨_, rfl⟩
  rw [← hoo] at ho32 ⊢
  repeat (first | refine st ?_ | (refine sa ?_; intro _))
  apply VL_loadW (k := 3); exact .none; exact rfl; exact rfl; exact rfl; (rw [List.length_map, ho32]); exact rfl
  apply VL_storeW (k := 0) (vs := o.map u8); exact .none; exact rfl; exact rfl; exact rfl; (rw [List.length_map, ho32]); exact all_u8 _; exact rfl; exact rfl; exact NF.zero _
  repeat (first | refine st ?_ | (refine sa ?_; intro _))
  apply VE_retC (k := 0); exact rfl; infer_instance; exact rfl; exact rfl; exact rfl; (rw [List.length_map, ho32])
  exact fun w s => ⟨_, rfl, rfl, s.drop⟩

def st2 (l1 l2 : List UInt8) : Nat → Obj
  | 0 => hobj I0.l (List.replicate 64 0) 0 0
  | 1 => hobj I0.l (fill (List.replicate 64 0) 0 l1) (((0 : Nat) : Int) + ((12 : Nat) : Int)) (0 + UInt64.ofNat 12)
  | _ => hobj I0.l (fill (fill (List.replicate 64 0) 0 l1) 12 l2) 44 (UInt64.ofNat 44)
theorem sum2 (w : World) (RA : Option Addr) (rc : Nat) (A1 A2 : Option Addr) (c1 c2 : Nat) (l1 l2 : List UInt8) (h1 : l1.length = 12) (h2 : l2.length = 32) (hR : Rd w RA [.slice A1 12 c1, .slice A2 32 c2]) (hA1 : Rd w A1 (l1.map u8)) (hA2 : Rd w A2 (l2.map u8))
    (hF : At w 1 0 I0.cells) (hT : At w 2 0 (Kt.map u32)) :
    Calls Tryd.prog 58 #[.slice RA 2 rc] w (Ret fun v w' => v = .agg ((sha (l1 ++ l2)).map u8).toArray ∧ St w [] [] w') := by
  have htl : 2 < w.heap.size := cell_lt (hT 0 _ rfl)
  have hl1 := hA1.lt (by simp [h1])
  have hl2 := hA2.lt (by simp [h2])
  have hf1 : (fill (List.replicate 64 0) 0 l1).length = 64 := by rw [fill_length (by simp [h1])]; rfl
  have hf2 : (fill (fill (List.replicate 64 0) 0 l1) 12 l2).length = 64 := by rw [fill_length (by rw [hf1, h2]; omega), hf1]
  have htake : (fill (fill (List.replicate 64 0) 0 l1) 12 l2).take 44 = l1 ++ l2 := by
    have e1 : (fill (List.replicate 64 0) 0 l1).take 12 = l1 := by
      unfold fill
      rw [List.take_zero, List.nil_append, List.take_append_of_le_length (by omega), List.take_of_length_le (by omega)]
    obtain ⟨f, hf⟩ : ∃ f, f = fill (List.replicate 64 0) 0 l1 := ⟨_, rfl⟩
    rw [← hf] at e1 hf1 ⊢
    unfold fill
    rw [e1, ← List.append_assoc, List.take_append_of_le_length (by simp [h1, h2]), List.take_of_length_le (by simp [h1, h2])]
  refine enter (args := [_]) Tryd.func58 rfl rfl rfl ?_
  repeat (first | refine st ?_ | (refine sa ?_; intro _))
  rename_i rb
  apply VL_call; exact .none; exact rfl; exact rfl
  · intro w1 s; exact newHash w1 (s.at_ hF)
  rintro w1 v w2 s ⟨b, rfl, t⟩
  refine ⟨_, _, s.comp0 t, ?_⟩
  repeat (first | refine st ?_ | (refine sa ?_; intro _))
  refine VC_loop ⟨fun j : Nat => j ≤ 2, fun j => [(2, .pointer (some ⟨rb, 0, none⟩)), (3, .pointer (some ⟨b, 0, none⟩)), (7, .slice RA 2 rc), (8, i64 2), (9, i64 (j : Int))], fun _ => [], fun j => [Blk rb ((List.replicate 32 (0 : UInt8)).map u8) 74, some (b, st2 l1 l2 j)]⟩ (fun j => 2 - j) 0 (by simp) ⟨rfl, rfl, rfl, rfl, rfl, trivial⟩ (fun _ s => s) ?_
  intro j hj
  dsimp only at hj ⊢
  rcases j with _ | _ | _ | j
  · repeat (first | refine st ?_ | (refine sa ?_; intro _))
    apply VL_load; exact .none; exact rfl; exact rfl; exact fun w2 s2 => s2.ocell (hR.cell (i := 0) rfl); exact rfl
    repeat (first | refine st ?_ | (refine sa ?_; intro _))
    apply VL_call; exact .none; exact rfl; exact rfl
    · intro w1 s
      have hn := s.new 1 b _ rfl
      have := write_ok w1 b I0 (List.replicate 64 0) 0 0 A1 c1 l1 hn.2 rfl (s.at_ hT) (by omega) (s.rd hA1) (fun a ha e => by have := hl1 a ha; omega) (by omega) (by omega)
      rw [h1, if_neg (by omega)] at this
      exact this
    rintro w1 v w2 s ⟨rfl, t⟩
    refine ⟨_, _, s.comp1 (k := 1) rfl t, ?_⟩
    repeat (first | refine st ?_ | (refine sa ?_; intro _))
    exact VE_fam 1 (by simp) (by simp) ⟨rfl, rfl, rfl, rfl, rfl, trivial⟩ (fun w5 s5 => s5)
  · repeat (first | refine st ?_ | (refine sa ?_; intro _))
    apply VL_load; exact .none; exact rfl; exact rfl; exact fun w2 s2 => s2.ocell (hR.cell (i := 1) rfl); exact rfl
    repeat (first | refine st ?_ | (refine sa ?_; intro _))
    apply VL_call; exact .none; exact rfl; exact rfl
    · intro w1 s
      have hn := s.new 1 b _ rfl
      have := write_ok w1 b I0 (fill (List.replicate 64 0) 0 l1) 12 (0 + UInt64.ofNat 12) A2 c2 l2 hn.2 hf1 (s.at_ hT) (by omega) (s.rd hA2) (fun a ha e => by have := hl2 a ha; omega) (by omega) (by omega)
      rw [h2, if_neg (by omega)] at this
      exact this
    rintro w1 v w2 s ⟨rfl, t⟩
    refine ⟨_, _, s.comp1 (k := 1) rfl t, ?_⟩
    repeat (first | refine st ?_ | (refine sa ?_; intro _))
    exact VE_fam 2 (by simp) (by simp) ⟨rfl, rfl, rfl, rfl, rfl, trivial⟩ (fun w5 s5 => s5)
  · repeat (first | refine st ?_ | (refine sa ?_; intro _))
    apply VL_call; exact .none; exact rfl; exact rfl
    · intro w1 s
      have := sumHash w1 b (fill (fill (List.replicate 64 0) 0 l1) 12 l2) (s.atH (k := 1) rfl (fun j v hj => by rw [Nat.zero_add]; exact hj)) hf2 (s.at_ hT)
      rw [htake] at this
      exact this
    rintro w1 v w2 s ⟨rfl, t⟩
    refine ⟨_, _, s.comp t, ?_⟩
    have ho32 := sha_length (l1 ++ l2)
    obtain ⟨o, hoo⟩ : ∃ o, o = sha (l1 ++ l2) := ⟨_, rfl⟩
    rw [← hoo] at ho32 ⊢
    repeat (first | refine st ?_ | (refine sa ?_; intro _))
    apply VL_storeW (k := 0) (vs := o.map u8); exact .none; exact rfl; exact rfl; exact rfl; (rw [List.length_map, ho32]); exact all_u8 _; exact rfl; exact rfl; exact NF.zero _
    repeat (first | refine st ?_ | (refine sa ?_; intro _))
    apply VE_retC (k := 0); exact rfl; infer_instance; exact rfl; exact rfl; exact rfl; (rw [List.length_map, ho32])
    exact fun w s => ⟨_, rfl, rfl, s.drop⟩
  · omega
end Go.Proofs.YtpboahlpgfglkaaDoor.X
