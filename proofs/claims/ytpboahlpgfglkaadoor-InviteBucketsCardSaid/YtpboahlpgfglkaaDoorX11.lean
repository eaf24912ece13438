/-
  Own library, part 11: == of arrays of numbers; states picked.
-/
import Derived.Test.YtpboahlpgfglkaaDoorX10
import Derived.ChangeKeysEq
namespace Go.Proofs.YtpboahlpgfglkaaDoor.X
open Go Go.RowKit
set_option linter.unusedVariables false
set_option linter.unusedSimpArgs false

theorem cellsOf_one {P : Program} {e : Nat} {de : TypeDesc} {ze : Value} {bye : Nat} [hE : TI P e de ze 1 bye] : P.cellsOf e = 1 := by
  obtain ⟨i, h1, h2, h3, h4⟩ := hE.get
  simp [Program.cellsOf, h1, h3]
theorem eqItems_int {P : Program} {e : Nat} {k : IntKind} {ze : Value} {bye d : Nat} [hE : TI P e (.int k) ze 1 bye] (xs ys : List Int) (hl : xs.length = ys.length) (w : World) :
    ∀ (m i : Nat), i + m = xs.length → (Op.eqItems (d + 1) e 1 (xs.map (Value.int k)).toArray (ys.map (Value.int k)).toArray (List.range' i m)).run P w = .ok (decide (xs.drop i = ys.drop i)) w
  | 0, i, h => by
    rw [List.drop_eq_nil_of_le (by omega), List.drop_eq_nil_of_le (by omega)]
    simp [Op.eqItems]
  | m + 1, i, h => by
    have hx : i < xs.length := by omega
    have hy : i < ys.length := by omega
    have ih := eqItems_int (d := d) (P := P) (e := e) (k := k) xs ys hl w m (i + 1) (by omega)
    have px : ∀ (zs : List Int) (hz : i < zs.length), (part e (zs.map (Value.int k)).toArray (i * 1)).run P w = .ok (.int k zs[i]) w := by
      intro zs hz
      simp [part, TI.r_agg (P := P) (t := e), TypeDesc.isRow, List.getElem?_eq_getElem hz]
    simp only [List.range'_succ, Op.eqItems, Sem.run_bind, px xs hx, px ys hy, Result.andThen_ok, eq_int (P := P) (d := d) hE.und w]
    have hdx := List.drop_eq_getElem_cons hx
    have hdy := List.drop_eq_getElem_cons hy
    by_cases he : xs[i] = ys[i]
    · have e2 : decide (xs.drop i = ys.drop i) = decide (xs.drop (i + 1) = ys.drop (i + 1)) := by
        congr 1
        rw [hdx, hdy, he]
        simp only [List.cons.injEq, true_and]
      rw [e2]
      simp [he, ih]
    · have e2 : decide (xs.drop i = ys.drop i) = false := by
        rw [decide_eq_false]
        rw [hdx, hdy]
        simp only [List.cons.injEq, he, false_and, not_false_eq_true]
      rw [e2]
      simp [he]
theorem eqArrI {P : Program} {t e n : Nat} {k : IntKind} {z ze : Value} {sz by_ bye : Nat} [hT : TI P t (.array n e) z sz by_] [hE : TI P e (.int k) ze 1 bye] (xs ys : List Int) (hx : xs.length = n) (hy : ys.length = n) (w : World) :
    (Op.equal t (.agg (xs.map (Value.int k)).toArray) (.agg (ys.map (Value.int k)).toArray)).run P w = .ok (decide (xs = ys)) w := by
  show (Op.equalIn (9998 + 1 + 1) _ _ _).run _ _ = _
  obtain ⟨i, h1, h2, h3, h4⟩ := hE.get
  rw [run_equalIn_array w (9998 + 1) _ _ hT.und h1, cellsOf_one (P := P) (e := e), List.range_eq_range']
  have := eqItems_int (P := P) (e := e) (k := k) (d := 9998) xs ys (by omega) w n 0 (by omega)
  simpa using this
theorem eqArr8 {P : Program} {t e n : Nat} {z ze : Value} {sz by_ bye : Nat} [hT : TI P t (.array n e) z sz by_] [hE : TI P e (.int .u8) ze 1 bye] (xs ys : List UInt8) (hx : xs.length = n) (hy : ys.length = n) (w : World) :
    (Op.equal t (.agg (xs.map u8).toArray) (.agg (ys.map u8).toArray)).run P w = .ok (decide (xs = ys)) w := by
  have := eqArrI (P := P) (t := t) (e := e) (k := .u8) (xs.map fun c => (c.toNat : Int)) (ys.map fun c => (c.toNat : Int)) (by simpa using hx) (by simpa using hy) w
  rw [List.map_map, List.map_map] at this
  have key : (decide ((xs.map fun c => (c.toNat : Int)) = ys.map fun c => (c.toNat : Int))) = decide (xs = ys) := by
    congr 1
    refine propext ⟨fun h => ?_, fun h => by rw [h]⟩
    exact (List.map_inj_right (fun a b hab => UInt8.toNat_inj.1 (by exact_mod_cast hab))).1 h
  rw [key] at this
  exact this

section
variable {P : Program} {ops rest : List Oper} {Q : Exit → Act → World → Prop} {n : Nat} {ds : List Deferred} {w0 : World} {env env' : Env} {M M' : Mem} {H H' : List Ent} {c : Code}
/-- ways meet behind what is walked now -/
theorem VC_cut {ι : Type} {x y : Code} (F : Fam ι) (h : VC P x (Exit.then (F.at n ds w0 fun _ => True) Q) n ds w0 env M H) (hy : ∀ i, F.J i → VC P y Q n ds w0 (F.E i) (F.M i) (F.H i)) :
    VC P x (Exit.then (y.wp P Q) Q) n ds w0 env M H := by
  refine ⟨fun a w hr hs => wp_mono (h a w hr hs) ?_⟩
  intro e a' w' hq
  cases e with
  | normal => obtain ⟨i, q1, -, q3, q4⟩ := hq; exact hy i q1 a' w' q3 q4
  | _ => exact hq
theorem VC_cutB {ι : Type} {x y : Code} {id : Nat} (F : Fam ι) (h : VC P x (Exit.inBlock id (Exit.then (F.at n ds w0 fun _ => True) Q)) n ds w0 env M H) (hy : ∀ i, F.J i → VC P y Q n ds w0 (F.E i) (F.M i) (F.H i)) :
    VC P x (Exit.inBlock id (Exit.then (y.wp P Q) Q)) n ds w0 env M H := by
  refine ⟨fun a w hr hs => wp_mono (h a w hr hs) ?_⟩
  intro e a' w' hq
  have key : F.at n ds w0 (fun _ => True) a' w' → y.wp P Q a' w' := fun ⟨i, q1, _, q3, q4⟩ => hy i q1 a' w' q3 q4
  cases e with
  | normal => exact key hq
  | exit id' =>
    simp only [Exit.inBlock] at hq ⊢
    by_cases e1 : id' = id
    · rw [if_pos e1] at hq ⊢; exact key hq
    · rw [if_neg e1] at hq ⊢; exact hq
  | _ => exact hq
theorem VC_cutBB {ι : Type} {x y : Code} {id id2 : Nat} (F : Fam ι) (h : VC P x (Exit.inBlock id (Exit.inBlock id2 (Exit.then (F.at n ds w0 fun _ => True) Q))) n ds w0 env M H) (hy : ∀ i, F.J i → VC P y Q n ds w0 (F.E i) (F.M i) (F.H i)) :
    VC P x (Exit.inBlock id (Exit.inBlock id2 (Exit.then (y.wp P Q) Q))) n ds w0 env M H := by
  refine ⟨fun a w hr hs => wp_mono (h a w hr hs) ?_⟩
  intro e a' w' hq
  have key : F.at n ds w0 (fun _ => True) a' w' → y.wp P Q a' w' := fun ⟨i, q1, _, q3, q4⟩ => hy i q1 a' w' q3 q4
  cases e with
  | normal => exact key hq
  | exit id' =>
    simp only [Exit.inBlock] at hq ⊢
    by_cases e1 : id' = id
    · rw [if_pos e1] at hq ⊢; exact key hq
    · rw [if_neg e1] at hq ⊢
      by_cases e2 : id' = id2
      · rw [if_pos e2] at hq ⊢; exact key hq
      · rw [if_neg e2] at hq ⊢; exact hq
  | _ => exact hq
/-- what is known of blocks that are no longer wanted is let go -/
theorem VC_pick (ks : List Nat) (hnd : ks.Nodup) (h : VC P c Q n ds w0 env M (ks.map fun k => (H[k]?).getD Option.none)) : VC P c Q n ds w0 env M H := ⟨fun a w hr hs => h a w hr (hs.pick ks hnd)⟩
theorem VL_pick (ks : List Nat) (hnd : ks.Nodup) (h : VL P ops Q rest n ds w0 env M (ks.map fun k => (H[k]?).getD Option.none)) : VL P ops Q rest n ds w0 env M H := ⟨fun a w hr hs => h a w hr (hs.pick ks hnd)⟩
/-- memory said otherwise -/
theorem VL_H (hH : ∀ w, St w0 M H w → St w0 M' H' w) (h : VL P ops Q rest n ds w0 env M' H') : VL P ops Q rest n ds w0 env M H := ⟨fun a w hr hs => h a w hr (hH w hs)⟩
theorem VC_H (hH : ∀ w, St w0 M H w → St w0 M' H' w) (h : VC P c Q n ds w0 env M' H') : VC P c Q n ds w0 env M H := ⟨fun a w hr hs => h a w hr (hH w hs)⟩
end
end Go.Proofs.YtpboahlpgfglkaaDoor.X
