/-
  Contract: the statement CodecConfigs.
-/
import Derived.Test.YtpboahlpgfglkaaF6
namespace Go.Proofs.Ytpboahlpgfglkaa.X
open Go Go.RowKit
set_option linter.unusedVariables false
set_option linter.unusedSimpArgs false
set_option maxRecDepth 100000

theorem cfgSame (a b c d e f : Int) (w : World) : (Op.equal 25 (.agg #[i64 a, i64 b, i64 c, i64 d, i64 e, i64 f]) (.agg #[i64 a, i64 b, i64 c, i64 d, i64 e, i64 f])).run Try.prog w = .ok true w := by
  show (Op.equalIn (9998 + 1 + 1) _ _ _).run _ _ = _
  have hu : Try.prog.underlying 25 = some (.struct (Try.prog.fieldsOf 25)) := by kernel_rfl
  rw [run_equalIn_struct w _ _ _ _ hu (by kernel_rfl)]
  have hf : (Try.prog.fieldsOf 25).toList.map (fun f => (f.name == "_", f.type, f.offset)) = [(false, 3, 0), (false, 3, 1), (false, 3, 2), (false, 3, 3), (false, 3, 4), (false, 3, 5)] := by kernel_rfl
  generalize (Try.prog.fieldsOf 25).toList = fs at hf
  have hp : ∀ (k : Nat) (x : Int) (cs : Array Value), cs[k]? = some (i64 x) → (part 3 cs k).run Try.prog w = .ok (i64 x) w := by
    intro k x cs hk
    simp [part, TI.r_agg (P := Try.prog) (t := 3), hk]
  have he : ∀ x : Int, (Op.equalIn (9998 + 1) 3 (i64 x) (i64 x)).run Try.prog w = .ok true w := fun x => by
    rw [eq_int (P := Try.prog) (d := 9998) (TI.und (P := Try.prog) (t := 3)) w]; simp
  rcases fs with _ | ⟨f0, _ | ⟨f1, _ | ⟨f2, _ | ⟨f3, _ | ⟨f4, _ | ⟨f5, _ | ⟨f6, fs⟩⟩⟩⟩⟩⟩⟩ <;> simp at hf
  obtain ⟨⟨n0, t0, o0⟩, ⟨n1, t1, o1⟩, ⟨n2, t2, o2⟩, ⟨n3, t3, o3⟩, ⟨n4, t4, o4⟩, ⟨n5, t5, o5⟩⟩ := hf
  simp only [Op.eqFields, ne_eq, n0, n1, n2, n3, n4, n5, not_false_eq_true, if_true, t0, t1, t2, t3, t4, t5, o0, o1, o2, o3, o4, o5, Sem.run_bind,
    hp 0 a #[i64 a, i64 b, i64 c, i64 d, i64 e, i64 f] rfl, hp 1 b #[i64 a, i64 b, i64 c, i64 d, i64 e, i64 f] rfl, hp 2 c #[i64 a, i64 b, i64 c, i64 d, i64 e, i64 f] rfl, hp 3 d #[i64 a, i64 b, i64 c, i64 d, i64 e, i64 f] rfl, hp 4 e #[i64 a, i64 b, i64 c, i64 d, i64 e, i64 f] rfl, hp 5 f #[i64 a, i64 b, i64 c, i64 d, i64 e, i64 f] rfl, he, Result.andThen_ok, Bool.not_true, Bool.false_eq_true, if_false, Sem.run_pure]
theorem cfgGuard : Try.prog.eqGuardType Try.prog.depth 25 = false := by kernel_rfl

/-- the first k places are written over -/
def over (l o : List UInt8) (k : Nat) : List UInt8 := o.take k ++ l.drop k
theorem over_length {l o : List UInt8} {k : Nat} (h1 : k ≤ l.length) (h2 : k ≤ o.length) : (over l o k).length = l.length := by simp [over]; omega
theorem over_step {l o : List UInt8} {k : Nat} (h1 : k < l.length) (h2 : k < o.length) : (over l o k).set k (o.getD k 0) = over l o (k + 1) := by
  unfold over
  have hl : (o.take k).length = k := by simp; omega
  rw [List.set_append_right _ _ (by omega), hl, Nat.sub_self, take_snoc8 h2]
  conv => lhs; rw [List.drop_eq_getElem_cons h1, List.set_cons_zero]
  rw [List.append_assoc]; rfl

set_option maxHeartbeats 4000000 in
theorem codecConfigs (w : World) (A B : Option Addr) (ca cb : Nat) (l o : List UInt8) (hA : Rd w A (l.map u8)) (hB : Rd w B (o.map u8)) (hl : l.length ≤ 140737488351232) (ho : o.length ≤ 140737488351232) (hca : l.length ≤ ca) :
    Calls Try.prog 3 #[.slice A l.length ca, .slice B o.length cb] w (Ret fun v w' => v = .bool true ∧ St w [] [] w') := by
  refine enter (args := [_, _]) Try.func3 rfl rfl rfl ?_
  repeat (first | refine st ?_ | (refine sa ?_; intro _))
  apply VL_call; exact .none; exact rfl; exact rfl
  · intro w1 s; exact spare w1 A ca l (s.rd hA) (by omega)
  rintro w1 v w2 s ⟨b, rfl, t⟩
  refine ⟨_, _, s.comp0 t, ?_⟩
  repeat (first | refine st ?_ | (refine sa ?_; intro _))
  have hread : ∀ (x : List UInt8) (w' : World) (H : List Ent), H[0]? = some (Blk b ((x ++ marks l.length).map u8) 5) → St w [] H w' → Rd w' (some ⟨b, 0, none⟩) (x.map u8) := by
    intro x w' H hk s'
    have := s'.rdH hk
    rw [List.map_append] at this
    exact this.append
  apply VL_call; exact .none; exact rfl; exact rfl
  · intro w3 s3; exact parseConfig w3 (some ⟨b, 0, none⟩) _ l (hread l w3 _ rfl s3) (by omega)
  rintro w3 v w4 s3 ⟨rfl, t3⟩
  refine ⟨_, _, s3.comp t3, ?_⟩
  repeat (first | refine st ?_ | (refine sa ?_; intro _))
  obtain ⟨⟨⟨p1, p2, p3, p4, p5, p6⟩, e⟩, hq⟩ : ∃ q, parseCfg l = q := ⟨_, rfl⟩
  rw [hq]
  rename_i c1
  apply VL_storeW (k := 1); exact .none; exact rfl; exact rfl; exact rfl; exact rfl; exact rfl; exact rfl; exact rfl; exact NF.zero _
  repeat (first | refine st ?_ | (refine sa ?_; intro _))
  apply VL_call; exact .none; exact rfl; exact rfl
  · intro w5 s5; exact refParseConfig w5 A ca l (s5.rd hA) (by omega) hca
  rintro w5 v w6 s5 ⟨rfl, t5⟩
  rw [hq]
  refine ⟨_, _, s5.comp t5, ?_⟩
  repeat (first | refine st ?_ | (refine sa ?_; intro _))
  rename_i c2
  apply VL_storeW (k := 2); exact .none; exact rfl; exact rfl; exact rfl; exact rfl; exact rfl; exact rfl; exact rfl; exact NF.zero _
  repeat (first | refine st ?_ | (refine sa ?_; intro _))
  apply VL_loadW (k := 1); exact .none; exact rfl; exact rfl; exact rfl; exact rfl; exact rfl
  apply VL_loadW (k := 2); exact .none; exact rfl; exact rfl; exact rfl; exact rfl; exact rfl
  apply VL_neA; exact .none; exact rfl; exact rfl; exact cfgSame _ _ _ _ _ _; exact cfgGuard; exact rfl
  repeat (first | refine st ?_ | (refine sa ?_; intro _))
  apply VL_call; exact .yes rfl rfl; exact rfl; exact rfl
  · intro w7 s7
    exact kept w7 (some ⟨b, 0, none⟩) A _ ca l (marks l.length) l (s7.rdH (k := 0) rfl) (marks_length _) (by omega) (s7.rd hA) (by omega)
  rintro w7 v w8 s7 ⟨rfl, t7⟩
  refine ⟨_, _, s7.comp t7, ?_⟩
  rw [decide_eq_true ⟨rfl, rfl⟩]
  repeat (first | refine st ?_ | (refine sa ?_; intro _))
  obtain ⟨m, hm⟩ : ∃ m, m = min l.length o.length := ⟨_, rfl⟩
  refine VC_loop ⟨fun k : Nat => k ≤ m, fun k => [(1, .slice B o.length cb), (4, .bool false), (5, .slice (some ⟨b, 0, none⟩) l.length (l.length + 80)), (6, .pointer (some ⟨c1, 0, none⟩)), (8, .pointer (some ⟨c2, 0, none⟩)), (10, i64 (k : Int))], fun _ => [],
    fun k => [Blk b ((over l o k ++ marks l.length).map u8) 5, Blk c1 [i64 p1, i64 p2, i64 p3, i64 p4, i64 p5, i64 p6] 25, Blk c2 [i64 p1, i64 p2, i64 p3, i64 p4, i64 p5, i64 p6] 25]⟩ (fun k => m - k) 0 (Nat.zero_le _) ⟨rfl, rfl, rfl, rfl, rfl, rfl, trivial⟩ (fun _ s => s) ?_
  rintro k hk
  dsimp only at hk ⊢
  by_cases hlt : k < m
  · have h1 : k < l.length := by omega
    have h2 : k < o.length := by omega
    repeat (first | refine st ?_ | (refine sa ?_; intro _))
    have hlen : ((over l o k ++ marks l.length).map u8).length = l.length + 80 := by simp [over_length (Nat.le_of_lt h1) (Nat.le_of_lt h2), marks_length]
    apply VL_storeB (p := 0); exact .none; exact rfl; exact rfl; exact rfl; exact rfl; (rw [hlen]; omega); exact NF.zero _
    repeat (first | refine st ?_ | (refine sa ?_; intro _))
    refine VE_fam (k + 1) (by (try dsimp only); omega) (by (try dsimp only); omega) ⟨rfl, rfl, rfl, rfl, rfl, rfl, trivial⟩ (fun _ s => ?_)
    have s' : St w [] [Blk b (((over l o k ++ marks l.length).map u8).set k (u8 (o.getD k 0))) 5, Blk c1 [i64 p1, i64 p2, i64 p3, i64 p4, i64 p5, i64 p6] 25, Blk c2 [i64 p1, i64 p2, i64 p3, i64 p4, i64 p5, i64 p6] 25] _ := s
    rw [← List.map_set, List.set_append_left _ _ (by rw [over_length (Nat.le_of_lt h1) (Nat.le_of_lt h2)]; exact h1), over_step h1 h2] at s'
    exact s'
  have hkm : k = m := by omega
  subst hkm
  obtain ⟨l2, hl2⟩ : ∃ l2, l2 = over l o k := ⟨_, rfl⟩
  have hlen2 : l2.length = l.length := by rw [hl2, over_length (by omega) (by omega)]
  rw [← hl2]
  have hcond : ¬ ((k : Int) < (l.length : Int) ∧ (k : Int) < (o.length : Int)) := by omega
  obtain ⟨⟨⟨q1, q2, q3, q4, q5, q6⟩, e2⟩, hq2⟩ : ∃ q, parseCfg l2 = q := ⟨_, rfl⟩
  have hl2b : l2.length ≤ 140737488351232 := by omega
  by_cases h1 : (k : Int) < (l.length : Int)
  all_goals
    repeat (first | refine st ?_ | (refine sa ?_; intro _))
    apply VL_call; exact .none; exact rfl; exact rfl
    · intro w9 s9
      have q := copyBytes w9 (some ⟨b, 0, none⟩) (l.length + 80) l2 (hread l2 w9 _ rfl s9) (by omega)
      rw [hlen2] at q; exact q
    rintro w9 v w10 s9 ⟨ent, A', c', rfl, ho', t9⟩
    have hle := ho'.le
    rw [List.length_map] at hle
    refine ⟨_, _, s9.comp0 t9, ?_⟩
    repeat (first | refine st ?_ | (refine sa ?_; intro _))
    apply VL_call; exact .none; exact rfl; exact rfl
    · intro w11 s11
      have q := parseConfig w11 (some ⟨b, 0, none⟩) (l.length + 80) l2 (hread l2 w11 _ rfl s11) (by omega)
      rw [hlen2] at q; exact q
    rintro w11 v w12 s11 ⟨rfl, t11⟩
    rw [hq2]
    refine ⟨_, _, s11.comp t11, ?_⟩
    repeat (first | refine st ?_ | (refine sa ?_; intro _))
    apply VL_storeW (k := 1); exact .none; exact rfl; exact rfl; exact rfl; exact rfl; exact rfl; exact rfl; exact rfl; exact NF.zero _
    repeat (first | refine st ?_ | (refine sa ?_; intro _))
    apply VL_call; exact .none; exact rfl; exact rfl
    · intro w13 s13
      have q := refParseConfig w13 A' c' l2 (s13.rdO (k := 3) rfl ho') (by omega) hle
      rw [hlen2] at q; exact q
    rintro w13 v w14 s13 ⟨rfl, t13⟩
    rw [hq2]
    refine ⟨_, _, s13.comp t13, ?_⟩
    repeat (first | refine st ?_ | (refine sa ?_; intro _))
    apply VL_storeW (k := 2); exact .none; exact rfl; exact rfl; exact rfl; exact rfl; exact rfl; exact rfl; exact rfl; exact NF.zero _
    repeat (first | refine st ?_ | (refine sa ?_; intro _))
    apply VL_loadW (k := 1); exact .none; exact rfl; exact rfl; exact rfl; exact rfl; exact rfl
    apply VL_loadW (k := 2); exact .none; exact rfl; exact rfl; exact rfl; exact rfl; exact rfl
    apply VL_eqA; exact .none; exact rfl; exact rfl; exact cfgSame _ _ _ _ _ _; exact cfgGuard; exact rfl
    repeat (first | refine st ?_ | (refine sa ?_; intro _))
    apply VL_call; exact .yes rfl rfl; exact rfl; exact rfl
    · intro w15 s15
      have q := eqBytes w15 (some ⟨b, 0, none⟩) A' (l.length + 80) c' l2 l2 (hread l2 w15 _ rfl s15) (s15.rdO (k := 3) rfl ho') (by omega)
      rw [hlen2] at q; exact q
    rintro w15 v w16 s15 ⟨rfl, t15⟩
    refine ⟨_, _, s15.comp t15, ?_⟩
    rw [decide_eq_true rfl]
    repeat (first | refine st ?_ | (refine sa ?_; intro _))
    exact VE_ret1 rfl rfl (fun w s => ⟨_, rfl, rfl, s.drop⟩)
end Go.Proofs.Ytpboahlpgfglkaa.X
