/-
  Own library: structs, arrays and lists of lists among the arguments; what a listed variable gives.
-/
import Derived.Test.YtpboahlpgfglkaaDoorXC
import Derived.Test.YtpboahlpgfglkaaDoorF25
import Derived.OpenShut
namespace Go.Proofs.YtpboahlpgfglkaaDoor.X
open Go Go.RowKit Go.ChangeShapes Go.WideShapes
set_option linter.unusedVariables false
set_option maxRecDepth 100000

section
variable {H : Type} {enc : TypeId × Value → H} {P : Program} {w : World} {base : Nat} {spare : Nat → Bool} {held : Bool} {fuel : Nat} {t : TypeId} {cs : List Value} {x : DataW H × List MemPlace}
theorem open_field {fs : Array Field} (ht : P.underlying t = some (.struct fs)) (h : DataW.trod enc P w base spare held fuel t cs = some x) (i : Nat) {f : Field} (hf : fs[i]? = some f) {ft off sz : Nat} (h1 : f.type = ft) (h2 : f.offset = off) (h3 : P.cellsOf ft = sz) :
    ∃ n y, DataW.trod enc P w base spare held n ft ((cs.drop off).take sz) = some y ∧ ∃ parts, x.1 = .agg parts ∧ parts[i]? = some y.1 := by
  obtain ⟨xs, n, _, hx, hl, hlen, hfs⟩ := DataW.trod_struct ht h
  have hi : i < fs.size := by
    rcases Nat.lt_or_ge i fs.size with h' | h'
    · exact h'
    · rw [Array.getElem?_eq_none h'] at hf; simp at hf
  have q := hfs i f hf
  rw [List.getElem?_eq_getElem (by omega : i < xs.length), h1, h2, h3] at q
  exact ⟨n, _, q, xs.map (·.1), by rw [hx], by simp [List.getElem?_eq_getElem (by omega : i < xs.length)]⟩
theorem open_arr8 {n e : Nat} (hu : P.underlying t = some (.array n e)) (he : P.underlying e = some (.int .u8)) (hc : P.cellsOf e = 1) (hct : P.cellsOf t = n) (h : DataW.trod enc P w base spare held fuel t cs = some x) :
    ∃ d : List UInt8, d.length = n ∧ cs = d.map u8 := by
  obtain ⟨xs, m, _, hx, hl, hlen, hfs⟩ := DataW.trod_array hu h
  rw [hct] at hl
  refine ⟨cs.map fun v => match v with | .int _ z => UInt8.ofNat z.toNat | _ => 0, by simp [hl], ?_⟩
  rw [List.map_map]
  apply List.ext_getElem?
  intro i
  rw [List.getElem?_map]
  rcases Nat.lt_or_ge i n with hi | hi
  · have q := hfs i hi
    rw [List.getElem?_eq_getElem (by omega : i < xs.length), hc, Nat.mul_one] at q
    obtain ⟨z, hz, -, hw⟩ := DataW.trod_int he q
    have e2 : ((cs.drop i).take 1)[0]? = some (.int .u8 z) := by rw [hz]; rfl
    have e3 : cs[i]? = some (.int .u8 z) := by simpa using e2
    rw [e3]
    simp only [Option.map_some, Function.comp_apply]
    rw [← u8_of hw]
  · rw [List.getElem?_eq_none (by omega)]; rfl
theorem open_row {e : TypeId} (hu : P.underlying t = some (.slice e)) (he : P.underlying e = some (.int .u8)) (hc : P.cellsOf e = 1) (h : DataW.trod enc P w base spare held fuel t cs = some x) :
    ∃ r : Row, cs = [r.val] ∧ Rd w r.A (r.l.map u8) ∧ r.l.length ≤ r.c := by
  obtain ⟨A, len, cap, rfl⟩ : ∃ A len cap, cs = [.slice A len cap] := by
    rcases open_ints hu he hc h with ⟨hcs, _⟩ | ⟨a, len, cap, zs, hcs, _⟩
    · exact ⟨_, _, _, hcs⟩
    · exact ⟨_, _, _, hcs⟩
  have hT : DataW.Trod enc P w base spare held t (.slice A len cap) x.1 x.2 := ⟨fuel, by simpa [Value.cells] using h⟩
  obtain ⟨l, rfl, h2, h3⟩ := open_bytesRd hu he hc hT
  exact ⟨⟨A, cap, l⟩, rfl, h2, h3⟩
theorem sized_row {e : TypeId} {ts : List TypeId} {ds : List (DataW H)} {j : Nat} {r : Row} (hsz : (DataW.weightsEach P ts ds).all (· ≤ reachBytes) = true) (ht : ts[j]? = some t) (hd : ds[j]? = some x.1)
    (hu : P.underlying t = some (.slice e)) (he : P.underlying e = some (.int .u8)) (hc : P.cellsOf e = 1) (hB : P.bytesOf e = 1) (h : DataW.trod enc P w base spare held fuel t [r.val] = some x) : r.l.length ≤ 140737488351232 :=
  sized_bytes (a := r.A) (cap := r.c) hsz ht hd hu he hc hB (show DataW.Trod enc P w base spare held t (.slice r.A r.l.length r.c) x.1 x.2 from ⟨fuel, by simpa [Value.cells, Row.val] using h⟩)
theorem sized_in {fs : Array Field} {ts : List TypeId} {ds : List (DataW H)} {j : Nat} {parts : List (DataW H)} (hsz : (DataW.weightsEach P ts ds).all (· ≤ reachBytes) = true) (ht : ts[j]? = some t) (hd : ds[j]? = some (.agg parts)) (hu : P.underlying t = some (.struct fs)) :
    (DataW.weightsEach P (fs.toList.map (·.type)) parts).all (· ≤ reachBytes) = true := by
  rw [List.all_eq_true] at hsz ⊢
  intro n hn
  exact hsz n (DataW.weights_mem_each ht hd n (by simp only [DataW.weights, hu]; exact hn))
end

theorem weights_all {H : Type} {P : Program} {e : TypeId} : ∀ {l : List (DataW H)} {d : DataW H}, d ∈ l → ∀ n ∈ d.weights P e, n ∈ DataW.weightsAll P e l
  | [], _, h, _, _ => by simp at h
  | x :: l, d, h, n, hn => by
    simp only [DataW.weightsAll, List.mem_append]
    rcases List.mem_cons.1 h with rfl | h
    · exact .inl hn
    · exact .inr (weights_all h n hn)
theorem list_of {α : Type} {Q : Nat → α → Prop} (n : Nat) (h : ∀ i, i < n → ∃ r, Q i r) : ∃ l : List α, l.length = n ∧ ∀ (i : Nat) (r : α), l[i]? = some r → Q i r := by
  induction n with
  | zero => exact ⟨[], rfl, fun i r h => by simp at h⟩
  | succ n ih =>
    obtain ⟨l, h1, h2⟩ := ih (fun i hi => h i (by omega))
    obtain ⟨r, hr⟩ := h n (by omega)
    refine ⟨l ++ [r], by simp [h1], fun i q hq => ?_⟩
    rcases Nat.lt_trichotomy i n with hi | hi | hi
    · rw [List.getElem?_append_left (by omega)] at hq; exact h2 i q hq
    · subst hi
      rw [List.getElem?_append_right (by omega), h1, Nat.sub_self] at hq
      simp at hq
      subst hq; exact hr
    · rw [List.getElem?_eq_none (by simp; omega)] at hq; simp at hq
theorem open_rows {H : Type} {enc : TypeId × Value → H} {W : World} {base : Nat} {spare : Nat → Bool} {held : Bool} {a : Option Addr} {len cap : Nat} {d : DataW H} {ps : List MemPlace} {ts : List TypeId} {ds : List (DataW H)} {j : Nat}
    (hsz : (DataW.weightsEach Tryd.prog ts ds).all (· ≤ reachBytes) = true) (ht : ts[j]? = some 45) (hd : ds[j]? = some d) (h : DataW.Trod enc Tryd.prog W base spare held 45 (.slice a len cap) d ps) :
    ∃ rs : List Row, len = rs.length ∧ RdRows W a rs ∧ rs.length * 24 ≤ 140737488351232 ∧ ∀ r ∈ rs, r.l.length ≤ 140737488351232 := by
  obtain ⟨fuel, hf⟩ := h
  have c1 : Tryd.prog.cellsOf 32 = 1 := by kernel_rfl
  have c8 : Tryd.prog.cellsOf 5 = 1 := by kernel_rfl
  have b8 : Tryd.prog.bytesOf 5 = 1 := by kernel_rfl
  have b24 : Tryd.prog.bytesOf 32 = 24 := by kernel_rfl
  have hf' : DataW.trod enc Tryd.prog W base spare held fuel 45 [.slice a len cap] = some (d, ps) := by simpa [Value.cells] using hf
  rcases DataW.trod_slice Tryd.underlying45 hf' with ⟨hcs, _⟩ | ⟨x, l, c, elems, rest, n, _, hcs, hx, hb, hl, hm, hlen, hel, _, _⟩
  · simp at hcs
    obtain ⟨rfl, rfl, rfl⟩ := hcs
    exact ⟨[], rfl, ⟨.inl rfl, fun r hr => by simp at hr⟩, by simp, fun r hr => by simp at hr⟩
  · simp at hcs
    obtain ⟨rfl, rfl, rfl⟩ := hcs
    obtain ⟨hx1, _⟩ := Prod.mk.inj hx
    have hw : ∀ k ∈ d.weights Tryd.prog 45, k ≤ reachBytes := fun k hk => by
      have := List.all_eq_true.1 hsz k (DataW.weights_mem_each ht hd k hk)
      simpa using this
    have each : ∀ i, i < len → ∃ r : Row, W.cell? (x.add i) = some r.val ∧ Rd W r.A (r.l.map u8) ∧ r.l.length ≤ 140737488351232 := by
      intro i hi
      have q := hel i hi
      rw [List.getElem?_eq_getElem (by omega : i < elems.length), c1, Nat.mul_one, Option.bind_eq_some_iff] at q
      obtain ⟨cs', hcs, hy⟩ := q
      obtain ⟨r, rfl, h1, h2⟩ := open_row Tryd.underlying32 Tryd.underlying5 c8 hy
      refine ⟨r, cell_of_cells?_one hcs, h1, ?_⟩
      refine sized_row (ts := [32]) (ds := [elems[i].1]) (j := 0) ?_ rfl rfl Tryd.underlying32 Tryd.underlying5 c8 b8 hy
      rw [List.all_eq_true]
      intro k hk
      simp only [DataW.weightsEach, List.append_nil] at hk
      have hmem : elems[i].1 ∈ elems.map (·.1) := List.mem_map_of_mem (List.getElem_mem _)
      have := hw k (by
        rw [hx1]
        simp only [DataW.weights, Tryd.underlying45, List.mem_cons, List.mem_append]
        exact .inr (.inl (weights_all hmem k hk)))
      simpa using this
    obtain ⟨rs, hrl, hrs⟩ := list_of len each
    have hlast : rs.length * 24 ≤ 140737488351232 := by
      have := hw ((elems.length + rest.length) * 24) (by
        rw [hx1]
        simp [DataW.weights, Tryd.underlying45, b24])
      have e : reachBytes = 140737488351232 := rfl
      rw [e, Nat.add_mul] at this
      omega
    refine ⟨rs, hrl.symm, ⟨?_, fun r hr => ?_⟩, hlast, fun r hr => ?_⟩
    · rcases Nat.eq_zero_or_pos len with h0 | h0
      · have : rs = [] := List.length_eq_zero_iff.1 (by omega)
        subst this; exact .inl rfl
      · obtain ⟨r0, h00, -, -⟩ := each 0 h0
        have hspot : x.spot = none := by
          simp only [Addr.add, if_true] at h00
          unfold World.cell? at h00
          split at h00
          · cases hs : x.spot with
            | none => rfl
            | some q => rw [hs] at h00; simp at h00
          · simp at h00
        obtain ⟨xb, xo, xs⟩ := x
        simp only at hspot
        subst hspot
        refine .inr ⟨xb, xo, rfl, fun i v hv => ?_⟩
        rw [List.getElem?_map] at hv
        cases hi : rs[i]? with
        | none => rw [hi] at hv; simp at hv
        | some r =>
          rw [hi] at hv
          simp at hv
          subst hv
          have := (hrs i r hi).1
          rwa [add_norm] at this
    · obtain ⟨i, hi⟩ := List.mem_iff_getElem?.1 hr
      exact (hrs i r hi).2.1
    · obtain ⟨i, hi⟩ := List.mem_iff_getElem?.1 hr
      exact (hrs i r hi).2.2

theorem open_cfgC {H : Type} {enc : TypeId × Value → H} {w : World} {base : Nat} {spare : Nat → Bool} {held : Bool} {fuel : Nat} {cs : List Value} {x : DataW H × List MemPlace}
    (h : DataW.trod enc Tryd.prog w base spare held fuel 29 cs = some x) (hl : cs.length = 6) : ∃ c : Cfg, cs = c.cells ∧ -9223372036854775808 ≤ c.message ∧ c.message ≤ 9223372036854775807 := by
  have key : ∀ (i : Nat) (f : Field), (Tryd.prog.fieldsOf 29)[i]? = some f → f.type = 3 → f.offset = i → ∃ z, cs[i]? = some (.int .i64 z) ∧ (Lit.int .i64 z).wf = true := by
    intro i f hfi ht ho
    obtain ⟨n, y, q, -⟩ := open_field Tryd.underlying29 h i hfi ht ho (show Tryd.prog.cellsOf 3 = 1 by kernel_rfl)
    obtain ⟨z, hz, -, hw⟩ := DataW.trod_int Tryd.underlying3 q
    have e2 : ((cs.drop i).take 1)[0]? = some (.int .i64 z) := by rw [hz]; rfl
    exact ⟨z, by simpa using e2, hw⟩
  obtain ⟨a, ha, wa⟩ := key 0 _ rfl rfl rfl
  obtain ⟨b, hb, wb⟩ := key 1 _ rfl rfl rfl
  obtain ⟨c, hc, wc⟩ := key 2 _ rfl rfl rfl
  obtain ⟨d', hd, wd⟩ := key 3 _ rfl rfl rfl
  obtain ⟨e, he, we⟩ := key 4 _ rfl rfl rfl
  obtain ⟨f, hf', wf⟩ := key 5 _ rfl rfl rfl
  have := wf_i64 wb
  refine ⟨⟨a, b, c, d', e, f⟩, ?_, this.1, this.2⟩
  rcases cs with _ | ⟨x0, _ | ⟨x1, _ | ⟨x2, _ | ⟨x3, _ | ⟨x4, _ | ⟨x5, _ | ⟨x6, l⟩⟩⟩⟩⟩⟩⟩ <;> simp at hl
  simp at ha hb hc hd he hf'
  rw [ha, hb, hc, hd, he, hf']; rfl

theorem cut5 (L : List Value) (h : L.length = 25) : L = (L.drop 0).take 6 ++ ((L.drop 6).take 16 ++ ((L.drop 22).take 1 ++ ((L.drop 23).take 1 ++ (L.drop 24).take 1))) := by
  have e1 : (L.drop 24).take 1 = L.drop 24 := List.take_of_length_le (by simp [h])
  rw [e1]
  have s1 : (L.drop 23).take 1 ++ L.drop 24 = L.drop 23 := by
    conv => rhs; rw [← List.take_append_drop 1 (L.drop 23)]
    rw [List.drop_drop]
  have s2 : (L.drop 22).take 1 ++ L.drop 23 = L.drop 22 := by
    conv => rhs; rw [← List.take_append_drop 1 (L.drop 22)]
    rw [List.drop_drop]
  have s3 : (L.drop 6).take 16 ++ L.drop 22 = L.drop 6 := by
    conv => rhs; rw [← List.take_append_drop 16 (L.drop 6)]
    rw [List.drop_drop]
  rw [s1, s2, s3, List.drop_zero, List.take_append_drop]
theorem open_talk {H : Type} {enc : TypeId × Value → H} {W : World} {base b0 : Nat} {r : Reach} {spare : Nat → Bool} {held : Bool} {v : Value} {d : DataW H} {ps : List MemPlace} {ts : List TypeId} {ds : List (DataW H)} {j : Nat}
    (hsz : (DataW.weightsEach Tryd.prog ts ds).all (· ≤ reachBytes) = true) (ht : ts[j]? = some 34) (hd : ds[j]? = some d)
    (hval : Value.okWide Tryd.prog W r b0 34 v) (h : DataW.Trod enc Tryd.prog W base spare held 34 v d ps) : ∃ x : TalkA, v = x.val ∧ x.ok W := by
  obtain ⟨cs, rfl, hsz0⟩ := okWide_struct Tryd.underlying34 hval
  rw [show Tryd.prog.cellsOf 34 = 25 by kernel_rfl] at hsz0
  obtain ⟨fuel, hf⟩ := h
  obtain ⟨L, hLe⟩ : ∃ L, L = cs.toList := ⟨_, rfl⟩
  have hcs : cs = L.toArray := by rw [hLe]
  have hL : L.length = 25 := by rw [hLe]; simpa using hsz0
  have hf' : DataW.trod enc Tryd.prog W base spare held fuel 34 L = some (d, ps) := by rw [hLe]; exact hf
  have c6 : Tryd.prog.cellsOf 29 = 6 := by kernel_rfl
  have c16 : Tryd.prog.cellsOf 31 = 16 := by kernel_rfl
  have c1 : Tryd.prog.cellsOf 4 = 1 := by kernel_rfl
  have c2 : Tryd.prog.cellsOf 32 = 1 := by kernel_rfl
  have c8 : Tryd.prog.cellsOf 5 = 1 := by kernel_rfl
  have b8 : Tryd.prog.bytesOf 5 = 1 := by kernel_rfl
  obtain ⟨n0, y0, q0, -⟩ := open_field Tryd.underlying34 hf' 0 (ft := 29) (off := 0) rfl rfl rfl c6
  obtain ⟨n1, y1, q1, -⟩ := open_field Tryd.underlying34 hf' 1 (ft := 31) (off := 6) rfl rfl rfl c16
  obtain ⟨n2, y2, q2, -⟩ := open_field Tryd.underlying34 hf' 2 (ft := 4) (off := 22) rfl rfl rfl c1
  obtain ⟨n3, y3, q3, p3, e3, g3⟩ := open_field Tryd.underlying34 hf' 3 (ft := 32) (off := 23) rfl rfl rfl c2
  obtain ⟨n4, y4, q4, p4, e4, g4⟩ := open_field Tryd.underlying34 hf' 4 (ft := 32) (off := 24) rfl rfl rfl c2
  obtain ⟨c, hc, hm1, hm2⟩ := open_cfgC q0 (by simp [hL])
  obtain ⟨dd, hd16, hdd⟩ := open_arr8 Tryd.underlying31 Tryd.underlying5 c8 c16 q1
  obtain ⟨th, hth, -⟩ := DataW.trod_bool Tryd.underlying4 q2
  obtain ⟨r3, hr3, rd3, rc3⟩ := open_row Tryd.underlying32 Tryd.underlying5 c8 q3
  obtain ⟨r4, hr4, rd4, rc4⟩ := open_row Tryd.underlying32 Tryd.underlying5 c8 q4
  dsimp only at e3 e4
  have s3 := sized_row (sized_in hsz ht (by rw [hd, e3]) Tryd.underlying34) (j := 3) rfl g3 Tryd.underlying32 Tryd.underlying5 c8 b8 (by rw [← hr3]; exact q3)
  have s4 := sized_row (sized_in hsz ht (by rw [hd, e4]) Tryd.underlying34) (j := 4) rfl g4 Tryd.underlying32 Tryd.underlying5 c8 b8 (by rw [← hr4]; exact q4)
  refine ⟨⟨c, dd, th, r3, r4⟩, ?_, ⟨hd16, rd3, rd4, rc3, rc4, s3, s4, hm1, hm2⟩⟩
  rw [hcs, cut5 L hL, hc, hdd, hth, hr3, hr4]; rfl
theorem errCell_of_laid {W : World} (h : laidMetH Tryd.prog [("errors.errorType", Rows.laid_errors_errorType)] W) : ErrCell W := by
  have h' : laidMet Tryd.prog [] W ∧ handlesMet Tryd.prog [("errors.errorType", Rows.laid_errors_errorType)] W := h
  obtain ⟨name, u, ty, e1, e2, e3, e4, e5⟩ := h'.2 _ (List.mem_singleton.2 rfl)
  have en : name = [101, 114, 114, 111, 114] := (Option.some.inj e1).symm
  subst en
  obtain rfl := Option.some.inj (rt.symm.trans e2)
  have hm : ty ∈ (List.range 197).filter fun t => Tryd.prog.rowNamed t [101, 114, 114, 111, 114] := List.mem_filter.2 ⟨List.mem_range.2 (by rw [← (show Tryd.prog.types.size = 197 by kernel_rfl)]; exact e3), e4⟩
  rw [show ((List.range 197).filter fun t => Tryd.prog.rowNamed t [101, 114, 114, 111, 114]) = [110] by kernel_rfl] at hm
  obtain rfl := List.mem_singleton.1 hm
  have hh : typeHandle Tryd.prog 110 = .pointer (some ⟨3, 110, none⟩) := by kernel_rfl
  rw [hh] at e5
  exact World.var?_cell (show Tryd.prog.globalNamed "errors.errorType" = some 0 by kernel_rfl) e5 0
end Go.Proofs.YtpboahlpgfglkaaDoor.X
