/-
  The statement NetChecks: a net that may not be.
-/
import Derived.Test.YtkonfogebepccaaDoorChkB
namespace Go.Proofs.YtkonfogebepccaaDoor
open Go.RowKit Go.Shelf
attribute [local go_sem] cell_set
set_option maxRecDepth 100000
set_option linter.unusedVariables false

theorem IntsRd.none (w : World) (A : Option Addr) : IntsRd w A [] := fun i hi => absurd hi (by simp)
theorem WrRd.none (w : World) (A : Option Addr) : WrRd w A [] := fun i hi => absurd hi (by simp)
section
variable (Q : Exit → Act → World → Prop) (A : Option Addr) (n cap : Nat) (L : List (ByteArray × Int)) (VA VB : Option Addr) (ca cb : Nat) (cells : List Int) (free : Int) (W : List (Pt × Pt)) (w : World)
set_option maxHeartbeats 4000000 in
theorem nc_7_bad (a : Act) (X : World) (b6 g1 g2 : Nat) (V5 : Option Addr) (c5 : Nat) (k1 k2 : Int) (hn : n = L.length) (hcap : L.length ≤ cap) (HL : Hid (AgRd w A L)) (hl : L.length ≤ 1024) (hcA : cells.length ≤ 8192) (hwA : W.length ≤ 32768) (HC : Hid (IntsRd w VA cells)) (HW : Hid (WrRd w VB W)) (h5 : L.length ≤ c5)
    (hk : (netChk (pnL L) L.length (chk L) cells free W).1 = k1) (hk0 : k1 ≠ 0)
    (hret : Hid (∀ a' X, FrN 214 [] [(4, .bool true)] a' → Below w.heap.size w X → Q .ret a' X))
    (hs : Hid (CkS w X w.heap.size b6 g1 g2 VA VB V5 ca cb L cells free W))
    (ha : FrN 214 [] [(0, .slice A n cap), (3, .pointer (some ⟨w.heap.size, 0, none⟩)), (5, .slice V5 L.length c5), (6, .pointer (some ⟨b6, 0, none⟩)), (7, .int .i64 k1), (8, .int .i64 k2), (9, .int .i64 k1), (10, .int .i64 k2)] a) : (ncT 7).wp Tryd.prog Q a X := by
  subst hn
  obtain ⟨U, rfl, e0, e3, e5, e6, e7, e8, e9, e10, -⟩ := ha.openNC
  have HS := hs
  unfold FrNC
  simp only [e0, e3, e5, e6, e7, e8, e9, e10]
  clear e0 e3 e5 e6 e7 e8 e9 e10 ha hs
  show (Code.seq _ _).wp _ _ _ _
  have H1 : Hid (∀ Z, CkS w Z w.heap.size b6 g1 g2 VA VB V5 ca cb L cells free W → Calls Tryd.prog 25 #[.slice V5 L.length c5, .agg #[.slice (some ⟨g1, 0, none⟩) cells.length (cells.length + 64), .int .i64 free, .slice (some ⟨g2, 0, none⟩) W.length (W.length + 64)]] Z fun e w' => e = .returned (.tuple #[.slice none 0 0, .int .i64 k1]) ∧ Below Z.heap.size Z w') := fun Z hz =>
    ports_bad V5 _ c5 L (some ⟨g1, 0, none⟩) (some ⟨g2, 0, none⟩) (cells.length + 64) (W.length + 64) cells free W Z rfl h5 (Lib.hid hz.ag) (by unfold maxLen; omega) (Lib.hid hz.wd.ints) (Lib.hid hz.wd.wires) (by omega) (by omega) k1 hk hk0
  have H2 : Hid (∀ Z, CkS w Z w.heap.size b6 g1 g2 VA VB V5 ca cb L cells free W → Calls Tryd.prog 26 #[.slice V5 L.length c5, .agg #[.slice (some ⟨g1, 0, none⟩) cells.length (cells.length + 64), .int .i64 free, .slice (some ⟨g2, 0, none⟩) W.length (W.length + 64)]] Z fun e w' => e = .returned (.tuple #[.slice none 0 0, .int .i64 k1]) ∧ Below Z.heap.size Z w') := fun Z hz =>
    ends_bad V5 _ c5 L (some ⟨g1, 0, none⟩) (some ⟨g2, 0, none⟩) (cells.length + 64) (W.length + 64) cells free W Z rfl h5 (Lib.hid hz.ag) (by unfold maxLen; omega) (Lib.hid hz.wd.ints) (Lib.hid hz.wd.wires) (by omega) (by omega) k1 hk hk0
  have H3 : Hid (∀ Z, CkS w Z w.heap.size b6 g1 g2 VA VB V5 ca cb L cells free W → Calls Tryd.prog 27 #[.slice V5 L.length c5, .agg #[.slice (some ⟨g1, 0, none⟩) cells.length (cells.length + 64), .int .i64 free, .slice (some ⟨g2, 0, none⟩) W.length (W.length + 64)]] Z fun e w' => e = .returned (.tuple #[.agg #[.slice none 0 0, .int .i64 0, .slice none 0 0], .int .i64 k1]) ∧ Below Z.heap.size Z w') := fun Z hz => by
    have := net_tidy_bad V5 _ c5 L (some ⟨g1, 0, none⟩) (some ⟨g2, 0, none⟩) (cells.length + 64) (W.length + 64) cells free W Z rfl h5 (Lib.hid hz.ag) (by unfold maxLen; omega) (Lib.hid hz.wd.ints) (Lib.hid hz.wd.wires) (by omega) (by omega) (by rw [hk]; exact hk0)
    rw [hk] at this
    exact this
  have H4 : Hid (∀ Z, CkS w Z w.heap.size b6 g1 g2 VA VB V5 ca cb L cells free W → Calls Tryd.prog 28 #[.slice V5 L.length c5, .agg #[.slice (some ⟨g1, 0, none⟩) cells.length (cells.length + 64), .int .i64 free, .slice (some ⟨g2, 0, none⟩) W.length (W.length + 64)]] Z fun e w' => e = .returned (.tuple #[.slice none 0 0, .int .i64 k1]) ∧ Below Z.heap.size Z w') := fun Z hz => by
    have := net_pairs_bad V5 _ c5 L (some ⟨g1, 0, none⟩) (some ⟨g2, 0, none⟩) (cells.length + 64) (W.length + 64) cells free W Z rfl h5 (Lib.hid hz.ag) (by unfold maxLen; omega) (Lib.hid hz.wd.ints) (Lib.hid hz.wd.wires) (by omega) (by omega) (by rw [hk]; exact hk0)
    rw [hk] at this
    exact this
  have H5 : Hid (∀ Z, CkS w Z w.heap.size b6 g1 g2 VA VB V5 ca cb L cells free W → Calls Tryd.prog 29 #[.agg #[.slice (some ⟨g1, 0, none⟩) cells.length (cells.length + 64), .int .i64 free, .slice (some ⟨g2, 0, none⟩) W.length (W.length + 64)], .agg #[.slice VA cells.length ca, .int .i64 free, .slice VB W.length cb]] Z fun e w' => e = .returned (.bool true) ∧ Below Z.heap.size Z w') := fun Z hz => by
    have := eq_net (some ⟨g1, 0, none⟩) (some ⟨g2, 0, none⟩) VA VB (cells.length + 64) (W.length + 64) ca cb cells cells free free W W Z (by omega) (by omega) (by omega) (by omega) (Lib.hid hz.wd.ints) (Lib.hid hz.wd.wires) (Lib.hid (HC.out.below hz.bel)) (Lib.hid (HW.out.below hz.bel))
    simpa using this
  have H6 : Hid (∀ Z, CkS w Z w.heap.size b6 g1 g2 VA VB V5 ca cb L cells free W → Calls Tryd.prog 30 #[.agg #[.slice (some ⟨g1, 0, none⟩) cells.length (cells.length + 64), .int .i64 free, .slice (some ⟨g2, 0, none⟩) W.length (W.length + 64)]] Z fun e w' => e = .returned (.bool true) ∧ Below Z.heap.size Z w') := fun Z hz =>
    spare_net g1 g2 cells free W Z (by omega) (by omega) (Lib.hid hz.wd)
  have H7 : Hid (∀ Z, CkS w Z w.heap.size b6 g1 g2 VA VB V5 ca cb L cells free W → Calls Tryd.prog 31 #[.slice V5 L.length c5, .slice A L.length cap] Z fun e w' => e = .returned (.bool true) ∧ Below Z.heap.size Z w') := fun Z hz =>
    eq_agents V5 A _ _ c5 cap L Z rfl rfl (by omega) (Lib.hid hz.ag) (Lib.hid (HL.out.below hz.bel))
  have H8 : Hid (∀ Z, Calls Tryd.prog 29 #[.agg #[.slice none 0 0, .int .i64 0, .slice none 0 0], .agg #[.slice none 0 0, .int .i64 0, .slice none 0 0]] Z fun e w' => e = .returned (.bool true) ∧ Below Z.heap.size Z w') := fun Z => by
    have := eq_net none none none none 0 0 0 0 [] [] 0 0 [] [] Z (by simp) (by simp) (by simp) (by simp) (Lib.hid (IntsRd.none _ _)) (Lib.hid (WrRd.none _ _)) (Lib.hid (IntsRd.none _ _)) (Lib.hid (WrRd.none _ _))
    exact this.mono fun e w' h => ⟨h.1.trans (by simp), h.2⟩
  have f1 : (k1 != k1) = false := by simp
  have f2 : (k2 != k2) = false := by simp
  have f3 : (k1 != 0) = true := by simpa using hk0
  clear hk hk0
  have c0 := HS.out.nb.c0
  have c1 := HS.out.nb.c1
  have c2 := HS.out.nb.c2
  have clt := HS.out.nb.lt
  have d0 := HS.out.n6.c0
  have d1 := HS.out.n6.c1
  have d2 := HS.out.n6.c2
  have dlt := HS.out.n6.lt
  go_wp2_with fail
  refine (H1.out _ HS.out).mono ?_
  rintro e w1 ⟨rfl, hb1⟩
  have HS := Lib.hid (HS.out.below hb1)
  clear c0 c1 c2 clt d0 d1 d2 dlt
  have c0 := HS.out.nb.c0
  have c1 := HS.out.nb.c1
  have c2 := HS.out.nb.c2
  have clt := HS.out.nb.lt
  have d0 := HS.out.n6.c0
  have d1 := HS.out.n6.c1
  have d2 := HS.out.n6.c2
  have dlt := HS.out.n6.lt
  clear hb1
  simp only []
  go_wp2_with fail
  refine (H2.out _ HS.out).mono ?_
  rintro e w2 ⟨rfl, hb2⟩
  have HS := Lib.hid (HS.out.below hb2)
  clear c0 c1 c2 clt d0 d1 d2 dlt
  have c0 := HS.out.nb.c0
  have c1 := HS.out.nb.c1
  have c2 := HS.out.nb.c2
  have clt := HS.out.nb.lt
  have d0 := HS.out.n6.c0
  have d1 := HS.out.n6.c1
  have d2 := HS.out.n6.c2
  have dlt := HS.out.n6.lt
  clear hb2
  simp only []
  go_wp2_with fail
  refine (H3.out _ HS.out).mono ?_
  rintro e w3 ⟨rfl, hb3⟩
  have HS := Lib.hid (HS.out.below hb3)
  clear c0 c1 c2 clt d0 d1 d2 dlt
  have c0 := HS.out.nb.c0
  have c1 := HS.out.nb.c1
  have c2 := HS.out.nb.c2
  have clt := HS.out.nb.lt
  have d0 := HS.out.n6.c0
  have d1 := HS.out.n6.c1
  have d2 := HS.out.n6.c2
  have dlt := HS.out.n6.lt
  clear hb3
  simp only []
  go_upto_region 10 with fail
  refine absW (fun Z => Below w3.heap.size w3 Z ∧ Z.heap[w3.heap.size]? = some (.cells #[.slice none 0 0, .int .i64 0, .slice none 0 0] 64 (0, 0))) ⟨(Below.refl _ _).alloc (Nat.le_refl _) _, heap_alloc_new w3 _⟩ ?_
  rintro Z ⟨hb4, hz4⟩
  have HS := Lib.hid (HS.out.below hb4)
  clear c0 c1 c2 clt d0 d1 d2 dlt
  have c0 := HS.out.nb.c0
  have c1 := HS.out.nb.c1
  have c2 := HS.out.nb.c2
  have clt := HS.out.nb.lt
  have d0 := HS.out.n6.c0
  have d1 := HS.out.n6.c1
  have d2 := HS.out.n6.c2
  have dlt := HS.out.n6.lt
  have HZ := Lib.hid hz4
  clear hb4 hz4
  go_wp2_with fail
  refine (H4.out _ HS.out).mono ?_
  rintro e w5 ⟨rfl, hb5⟩
  have HS := Lib.hid (HS.out.below hb5)
  clear c0 c1 c2 clt d0 d1 d2 dlt
  have c0 := HS.out.nb.c0
  have c1 := HS.out.nb.c1
  have c2 := HS.out.nb.c2
  have clt := HS.out.nb.lt
  have d0 := HS.out.n6.c0
  have d1 := HS.out.n6.c1
  have d2 := HS.out.n6.c2
  have dlt := HS.out.n6.lt
  have HZ := Lib.hid ((hb5.block _ (heap_lt HZ.out)).trans HZ.out)
  clear hb5
  simp only []
  go_wp2_with fail
  refine (H5.out _ HS.out).mono ?_
  rintro e w6 ⟨rfl, hb6⟩
  have HS := Lib.hid (HS.out.below hb6)
  clear c0 c1 c2 clt d0 d1 d2 dlt
  have c0 := HS.out.nb.c0
  have c1 := HS.out.nb.c1
  have c2 := HS.out.nb.c2
  have clt := HS.out.nb.lt
  have d0 := HS.out.n6.c0
  have d1 := HS.out.n6.c1
  have d2 := HS.out.n6.c2
  have dlt := HS.out.n6.lt
  have HZ := Lib.hid ((hb6.block _ (heap_lt HZ.out)).trans HZ.out)
  clear hb6
  simp only []
  go_wp2_with fail
  refine (H6.out _ HS.out).mono ?_
  rintro e w7 ⟨rfl, hb7⟩
  have HS := Lib.hid (HS.out.below hb7)
  clear c0 c1 c2 clt d0 d1 d2 dlt
  have c0 := HS.out.nb.c0
  have c1 := HS.out.nb.c1
  have c2 := HS.out.nb.c2
  have clt := HS.out.nb.lt
  have d0 := HS.out.n6.c0
  have d1 := HS.out.n6.c1
  have d2 := HS.out.n6.c2
  have dlt := HS.out.n6.lt
  have HZ := Lib.hid ((hb7.block _ (heap_lt HZ.out)).trans HZ.out)
  clear hb7
  simp only []
  go_wp2_with fail
  refine (H7.out _ HS.out).mono ?_
  rintro e w8 ⟨rfl, hb8⟩
  have HS := Lib.hid (HS.out.below hb8)
  clear c0 c1 c2 clt d0 d1 d2 dlt
  have c0 := HS.out.nb.c0
  have c1 := HS.out.nb.c1
  have c2 := HS.out.nb.c2
  have clt := HS.out.nb.lt
  have d0 := HS.out.n6.c0
  have d1 := HS.out.n6.c1
  have d2 := HS.out.n6.c2
  have dlt := HS.out.n6.lt
  have HZ := Lib.hid ((hb8.block _ (heap_lt HZ.out)).trans HZ.out)
  clear hb8
  have z0 : w8.cell? ⟨w3.heap.size, 0, none⟩ = some (.slice none 0 0) := by simp [World.cell?, HZ.out]
  have z1 : w8.cell? ⟨w3.heap.size, 1, none⟩ = some (.int .i64 0) := by simp [World.cell?, HZ.out]
  have z2 : w8.cell? ⟨w3.heap.size, 2, none⟩ = some (.slice none 0 0) := by simp [World.cell?, HZ.out]
  simp only []
  go_wp2_with fail
  refine (H8.out _).mono ?_
  rintro e w9 ⟨rfl, hb9⟩
  have HB9 := Lib.hid (HS.out.bel.trans (hb9.mono HS.out.bel.size))
  clear hb9 z0 z1 z2
  simp only []
  go_wp2_with fail
  refine (works03 _).mono ?_
  rintro e w10 ⟨rfl, hb10⟩
  have HB10 := Lib.hid (HB9.out.trans (hb10.mono HB9.out.size))
  clear hb10
  simp only []
  repeat (first
    | exact hret.out _ _ ⟨rfl, rfl, rfl, trivial⟩ HB10.out
    | go_values | go_skip | go_guarded | go_step | go_upon | go_back)
end
end Go.Proofs.YtkonfogebepccaaDoor
