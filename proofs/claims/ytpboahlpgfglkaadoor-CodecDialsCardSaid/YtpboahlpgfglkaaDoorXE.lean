/-
  Own library: what the calls of a dial round are handed, among the arguments.
-/
import Derived.Test.YtpboahlpgfglkaaDoorXD
import Derived.Test.YtpboahlpgfglkaaDoorF34
namespace Go.Proofs.YtpboahlpgfglkaaDoor.X
open Go Go.RowKit Go.ChangeShapes Go.WideShapes
set_option linter.unusedVariables false
set_option maxRecDepth 100000

theorem cut4 (L : List Value) (h : L.length = 9) : L = (L.drop 0).take 6 ++ ((L.drop 6).take 1 ++ ((L.drop 7).take 1 ++ (L.drop 8).take 1)) := by
  have e1 : (L.drop 8).take 1 = L.drop 8 := List.take_of_length_le (by simp [h])
  rw [e1]
  have s1 : (L.drop 7).take 1 ++ L.drop 8 = L.drop 7 := by
    conv => rhs; rw [← List.take_append_drop 1 (L.drop 7)]
    rw [List.drop_drop]
  have s2 : (L.drop 6).take 1 ++ L.drop 7 = L.drop 6 := by
    conv => rhs; rw [← List.take_append_drop 1 (L.drop 6)]
    rw [List.drop_drop]
  rw [s1, s2, List.drop_zero, List.take_append_drop]
theorem open_dial {H : Type} {enc : TypeId × Value → H} {W : World} {base b0 : Nat} {r : Reach} {spare : Nat → Bool} {held : Bool} {v : Value} {d : DataW H} {ps : List MemPlace} {ts : List TypeId} {ds : List (DataW H)} {j : Nat}
    (hsz : (DataW.weightsEach Tryd.prog ts ds).all (· ≤ reachBytes) = true) (ht : ts[j]? = some 55) (hd : ds[j]? = some d)
    (hval : Value.okWide Tryd.prog W r b0 55 v) (h : DataW.Trod enc Tryd.prog W base spare held 55 v d ps) : ∃ x : DialA, v = x.val ∧ x.ok W := by
  obtain ⟨cs, rfl, hsz0⟩ := okWide_struct Tryd.underlying55 hval
  rw [show Tryd.prog.cellsOf 55 = 9 by kernel_rfl] at hsz0
  obtain ⟨fuel, hf⟩ := h
  obtain ⟨L, hLe⟩ : ∃ L, L = cs.toList := ⟨_, rfl⟩
  have hcs : cs = L.toArray := by rw [hLe]
  have hL : L.length = 9 := by rw [hLe]; simpa using hsz0
  have hf' : DataW.trod enc Tryd.prog W base spare held fuel 55 L = some (d, ps) := by rw [hLe]; exact hf
  have c6 : Tryd.prog.cellsOf 29 = 6 := by kernel_rfl
  have c1 : Tryd.prog.cellsOf 3 = 1 := by kernel_rfl
  have c2 : Tryd.prog.cellsOf 32 = 1 := by kernel_rfl
  have c8 : Tryd.prog.cellsOf 5 = 1 := by kernel_rfl
  have b8 : Tryd.prog.bytesOf 5 = 1 := by kernel_rfl
  obtain ⟨n0, y0, q0, -⟩ := open_field Tryd.underlying55 hf' 0 (ft := 29) (off := 0) rfl rfl rfl c6
  obtain ⟨n1, y1, q1, -⟩ := open_field Tryd.underlying55 hf' 1 (ft := 3) (off := 6) rfl rfl rfl c1
  obtain ⟨n3, y3, q3, p3, e3, g3⟩ := open_field Tryd.underlying55 hf' 2 (ft := 32) (off := 7) rfl rfl rfl c2
  obtain ⟨n4, y4, q4, p4, e4, g4⟩ := open_field Tryd.underlying55 hf' 3 (ft := 32) (off := 8) rfl rfl rfl c2
  obtain ⟨c, hc, hm1, hm2⟩ := open_cfgC q0 (by simp [hL])
  obtain ⟨n, hn, -, -⟩ := DataW.trod_int Tryd.underlying3 q1
  obtain ⟨r3, hr3, rd3, rc3⟩ := open_row Tryd.underlying32 Tryd.underlying5 c8 q3
  obtain ⟨r4, hr4, rd4, rc4⟩ := open_row Tryd.underlying32 Tryd.underlying5 c8 q4
  dsimp only at e3 e4
  have s3 := sized_row (sized_in hsz ht (by rw [hd, e3]) Tryd.underlying55) (j := 2) rfl g3 Tryd.underlying32 Tryd.underlying5 c8 b8 (by rw [← hr3]; exact q3)
  have s4 := sized_row (sized_in hsz ht (by rw [hd, e4]) Tryd.underlying55) (j := 3) rfl g4 Tryd.underlying32 Tryd.underlying5 c8 b8 (by rw [← hr4]; exact q4)
  refine ⟨⟨c, n, r3, r4⟩, ?_, ⟨rd3, rd4, rc3, rc4, s3, s4, hm1, hm2⟩⟩
  rw [hcs, cut4 L hL, hc, hn, hr3, hr4]; rfl
end Go.Proofs.YtpboahlpgfglkaaDoor.X
