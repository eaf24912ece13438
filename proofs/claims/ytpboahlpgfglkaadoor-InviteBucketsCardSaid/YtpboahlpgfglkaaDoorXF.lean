/-
  Own library: arrays among the arguments; listed tables of numbers; a world that holds them.
-/
import Derived.Test.YtpboahlpgfglkaaDoorXD
import Derived.Test.YtpboahlpgfglkaaDoorF43
import Derived.Lay
namespace Go.Proofs.YtpboahlpgfglkaaDoor.X
open Go Go.RowKit Go.ChangeShapes Go.WideShapes
set_option linter.unusedVariables false
set_option maxRecDepth 100000

theorem okWide_array {P : Program} {w : World} {r : Reach} {base t n e : Nat} {v : Value} (ht : P.underlying t = some (.array n e)) (h : Value.okWide P w r base t v) : ∃ cs, v = .agg cs ∧ cs.size = P.cellsOf t := by
  simp only [Value.okWide, ht] at h
  obtain ⟨cs, h1, h2, _⟩ := h
  exact ⟨cs, h1, h2⟩
theorem open_key {H : Type} {enc : TypeId × Value → H} {W : World} {base b0 : Nat} {r : Reach} {spare : Nat → Bool} {held : Bool} {v : Value} {d : DataW H} {ps : List MemPlace}
    (hval : Value.okWide Tryd.prog W r b0 23 v) (h : DataW.Trod enc Tryd.prog W base spare held 23 v d ps) :
    ∃ k : List UInt8, v = .agg (k.map u8).toArray ∧ k.length = 32 := by
  obtain ⟨cs, rfl, -⟩ := okWide_array Tryd.underlying23 hval
  obtain ⟨fuel, hf⟩ := h
  obtain ⟨k, hk, hcs⟩ := open_arr8 Tryd.underlying23 Tryd.underlying5 (by kernel_rfl) (by kernel_rfl) hf
  have hcs' : cs.toList = k.map u8 := by simpa [Value.cells] using hcs
  exact ⟨k, by rw [← hcs'], hk⟩
theorem open_tab {H : Type} {enc : TypeId × Value → H} {P : Program} {w : World} {base : Nat} {spare : Nat → Bool} {held : Bool} {fuel t : Nat} {cs : List Value} {n e : Nat} {p : List MemPlace} {ns : List UInt32}
    (hu : P.underlying t = some (.array n e)) (he : P.underlying e = some (.int .u32)) (hc : P.cellsOf e = 1) (hct : P.cellsOf t = n)
    (h : DataW.trod enc P w base spare held fuel t cs = some (.agg (ns.map fun z => .lit (.int .u32 (z.toNat : Int))), p)) : cs = ns.map u32 := by
  obtain ⟨xs, m, _, hx, hl, hlen, hfs⟩ := DataW.trod_array hu h
  rw [hct] at hl
  have hx1 : ns.map (fun z => DataW.lit (.int .u32 (z.toNat : Int))) = xs.map (·.1) := by
    have := (Prod.mk.inj hx).1
    injection this
  have hns : ns.length = n := by
    have := congrArg List.length hx1
    simpa [hlen] using this
  apply List.ext_getElem?
  intro i
  rw [List.getElem?_map]
  rcases Nat.lt_or_ge i n with hi | hi
  · have q := hfs i hi
    rw [List.getElem?_eq_getElem (by omega : i < xs.length), hc, Nat.mul_one] at q
    obtain ⟨z, hz, hxz, -⟩ := DataW.trod_int he q
    have e2 : ((cs.drop i).take 1)[0]? = some (.int .u32 z) := by rw [hz]; rfl
    have e3 : cs[i]? = some (.int .u32 z) := by simpa using e2
    have e4 : (ns.map (fun z => (DataW.lit (.int .u32 (z.toNat : Int)) : DataW H)))[i]? = (xs.map (·.1))[i]? := by rw [hx1]
    rw [List.getElem?_map, List.getElem?_map, List.getElem?_eq_getElem (by omega : i < ns.length), List.getElem?_eq_getElem (by omega : i < xs.length)] at e4
    simp only [Option.map_some, Option.some.injEq] at e4
    rw [hxz] at e4
    injection e4 with e5
    injection e5 with _ e6
    rw [e3, List.getElem?_eq_getElem (by omega : i < ns.length), ← e6]
    rfl
  · rw [List.getElem?_eq_none (by omega), List.getElem?_eq_none (by omega)]; rfl

abbrev tabs : List (String × DataW Unit) := [("tryst/digest.first", Rows.laid_tryst_digest_first), ("tryst/digest.table", Rows.laid_tryst_digest_table)]
theorem tabs_of_laid {W : World} (h : laidMetH Tryd.prog tabs W) : At W 1 0 I0.cells ∧ At W 2 0 (Kt.map u32) := by
  have h' : laidMet Tryd.prog tabs W := h
  obtain ⟨ps, hv, -, -⟩ := h'
  obtain ⟨g, t, cs, fuel, p, q, a1, a2, a3, a4, ⟨g', t', cs', fuel', p', q', b1, b2, b3, b4, -, -⟩, -⟩ := hv
  have c89 : Tryd.prog.cellsOf 89 = 1 := by kernel_rfl
  constructor
  · have hg : Tryd.prog.globalNamed "tryst/digest.first" = some 1 := by kernel_rfl
    obtain rfl := Option.some.inj (a1.symm.trans hg)
    have ht : (Tryd.prog.globals[1]?).map (·.type) = some 116 := by kernel_rfl
    obtain rfl := Option.some.inj (a2.symm.trans ht)
    have e := open_tab (ns := I0.l) Tryd.underlying116 Tryd.underlying89 c89 (by kernel_rfl) (by exact a4)
    intro j v hj
    rw [Nat.zero_add, World.var?_cell hg a3, ← Array.getElem?_toList, e]
    exact hj
  · have hg : Tryd.prog.globalNamed "tryst/digest.table" = some 2 := by kernel_rfl
    obtain rfl := Option.some.inj (b1.symm.trans hg)
    have ht : (Tryd.prog.globals[2]?).map (·.type) = some 135 := by kernel_rfl
    obtain rfl := Option.some.inj (b2.symm.trans ht)
    have e := open_tab (ns := Kt) Tryd.underlying135 Tryd.underlying89 c89 (by kernel_rfl) (by exact b4)
    intro j v hj
    rw [Nat.zero_add, World.var?_cell hg b3, ← Array.getElem?_toList, e]
    exact hj
theorem tabsWorld_met (os : Os) (args : Array Value) : laidMetH Tryd.prog tabs ((World.laidAll Tryd.prog os tabs).forCall (fun _ _ => 0) ⟨#[], args, []⟩).memory :=
  laidMet_laidAll args (by kernel_rfl) (by kernel_rfl)
end Go.Proofs.YtpboahlpgfglkaaDoor.X
