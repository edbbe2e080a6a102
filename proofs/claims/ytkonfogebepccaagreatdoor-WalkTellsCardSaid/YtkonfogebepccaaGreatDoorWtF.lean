/-
  The statement WalkTells: its answers are memory of their own; the whole walk.
-/
import Derived.Test.YtkonfogebepccaaGreatDoorWtD
import Derived.Test.YtkonfogebepccaaGreatDoorBag
import Derived.Deep.LoopGhost
/-
  The statement WalkTells: what lies in its bag.
-/
/-
  The statement WalkTells: its answers are the document's; its arguments stay.
-/
namespace Go.Proofs.YtkonfogebepccaaGreatDoor
open Go.RowKit Go.Shelf
attribute [local go_sem] cell_set
set_option maxRecDepth 100000
set_option linter.unusedVariables false
section
variable (Q : Exit → Act → World → Prop) (A : Option Addr) (n cap : Nat) (L : List (ByteArray × Int)) (VA VB : Option Addr) (ca cb : Nat) (cells : List Int) (free : Int) (W : List (Pt × Pt)) (p : Pt) (w : World)
set_option maxHeartbeats 4000000 in
theorem wt_11 (a : Act) (X : World) (b8 gA : Nat) (k j : Int) (l : List Int) (R : List Pa) (Va Vb Vf Vp Vq Vr : Option Addr) (ka kb kf kp kq kr : Nat) (qs rs ds : List PV) (h1 : l.length ≤ 100000) (h2 : LenP R)
    (hnext : Hid (∀ a' Y, FrN 183 [] [(0, .slice A n cap), (4, .pointer (some ⟨w.heap.size, 0, none⟩)), (5, .pointer (some ⟨w.heap.size + 1, 0, none⟩)), (7, .slice (some ⟨gA, 0, none⟩) n (n + 64)), (8, .pointer (some ⟨b8, 0, none⟩)), (9, .slice Va l.length ka), (11, .slice Vb l.length kb), (15, .slice Vp R.length kp), (17, .slice Vq R.length kq)] a' → Below X.heap.size X Y → (wtT 13).wp Tryz.prog Q a' Y))
    (HT : Hid (WtN w X Va Vb Vf Vp Vq Vr ka kb kf kp kq kr l R qs rs ds))
    (ha : FrN 183 [] [(0, .slice A n cap), (4, .pointer (some ⟨w.heap.size, 0, none⟩)), (5, .pointer (some ⟨w.heap.size + 1, 0, none⟩)), (7, .slice (some ⟨gA, 0, none⟩) n (n + 64)), (8, .pointer (some ⟨b8, 0, none⟩)),
      (9, .slice Va l.length ka), (10, .int .i64 k), (11, .slice Vb l.length kb), (12, .int .i64 k), (13, .slice Vf l.length kf), (14, .int .i64 k), (15, .slice Vp R.length kp), (16, .int .i64 j), (17, .slice Vq R.length kq), (18, .int .i64 j), (19, .slice Vr R.length kr), (20, .int .i64 j)] a) : (wtT 11).wp Tryz.prog Q a X := by
  obtain ⟨U, rfl, e0, e4, e5, e7, e8, e9, e10, e11, e12, e13, e14, e15, e16, e17, e18, e19, e20, -⟩ := ha.openWT
  unfold FrWT
  simp only [e0, e4, e5, e7, e8, e9, e10, e11, e12, e13, e14, e15, e16, e17, e18, e19, e20]
  clear e0 e4 e5 e7 e8 e9 e10 e11 e12 e13 e14 e15 e16 e17 e18 e19 e20 ha
  show (Code.seq _ _).wp _ _ _ _
  have E1 : Hid (∀ Z, Below X.heap.size X Z → Calls Tryz.prog 12 #[.slice Va l.length ka, .slice Vf l.length kf] Z fun e w' => e = .returned (.bool true) ∧ Below Z.heap.size Z w') := fun Z hz => eq_same Va Vf ka kf l Z h1 (HT.out.below hz).a.1.ints (HT.out.below hz).f.1.ints
  have E2 : Hid (∀ Z, Below X.heap.size X Z → Calls Tryz.prog 12 #[.slice Vb l.length kb, .slice Vf l.length kf] Z fun e w' => e = .returned (.bool true) ∧ Below Z.heap.size Z w') := fun Z hz => eq_same Vb Vf kb kf l Z h1 (HT.out.below hz).b.1.ints (HT.out.below hz).f.1.ints
  have E3 : Hid (∀ Z, Below X.heap.size X Z → Calls Tryz.prog 13 #[.slice Vp R.length kp, .slice Vr R.length kr] Z fun e w' => e = .returned (.bool true) ∧ Below Z.heap.size Z w') := fun Z hz => parts_same Vp Vr _ kp kr R qs ds w w Z rfl h2 (Lib.hid (HT.out.below hz).p) (Lib.hid (HT.out.below hz).r) (Lib.hid HT.out.pm) (Lib.hid HT.out.rm)
  have E4 : Hid (∀ Z, Below X.heap.size X Z → Calls Tryz.prog 13 #[.slice Vq R.length kq, .slice Vr R.length kr] Z fun e w' => e = .returned (.bool true) ∧ Below Z.heap.size Z w') := fun Z hz => parts_same Vq Vr _ kq kr R rs ds w w Z rfl h2 (Lib.hid (HT.out.below hz).q) (Lib.hid (HT.out.below hz).r) (Lib.hid HT.out.qm) (Lib.hid HT.out.rm)
  have HBz : Hid (Below X.heap.size X X) := Below.refl _ _
  clear h1 h2
  go_wp2_with fail
  refine (E1.out _ HBz.out).mono ?_
  rintro e w1 ⟨rfl, hb1⟩
  have HBz := Lib.hid (HBz.out.trans (hb1.mono HBz.out.size))
  clear hb1
  simp only []
  go_wp2_with fail
  refine (E2.out _ HBz.out).mono ?_
  rintro e w2 ⟨rfl, hb1⟩
  have HBz := Lib.hid (HBz.out.trans (hb1.mono HBz.out.size))
  clear hb1
  simp only []
  go_wp2_with fail
  refine (E3.out _ HBz.out).mono ?_
  rintro e w3 ⟨rfl, hb1⟩
  have HBz := Lib.hid (HBz.out.trans (hb1.mono HBz.out.size))
  clear hb1
  simp only []
  go_wp2_with fail
  refine (E4.out _ HBz.out).mono ?_
  rintro e w4 ⟨rfl, hb1⟩
  have HBz := Lib.hid (HBz.out.trans (hb1.mono HBz.out.size))
  clear hb1
  simp only []
  iterate 80 (first | (with_reducible refine at_seq3 13 ?_) | (with_reducible refine at_seq2 13 ?_) | (with_reducible refine at_seq 13 ?_) | go_values | go_skip | go_guarded | go_step | go_upon | go_back | go_simp)
  exact hnext.out _ _ ⟨rfl, rfl, rfl, rfl, rfl, rfl, rfl, rfl, rfl, rfl, rfl, trivial⟩ HBz.out
set_option maxHeartbeats 4000000 in
theorem wt_13 (a : Act) (X : World) (b8 gA g1 g2 : Nat) (l : List Int) (R : List Pa) (Va Vb Vp Vq : Option Addr) (ka kb kp kq : Nat) (hn : n = L.length) (HR : Hid (Rd w A VA VB L cells W)) (hl : L.length ≤ 6000000000000) (hcw : cells.length + W.length ≤ 2048)
    (hnext : Hid (∀ a' Y, FrN 183 [] [(0, .slice A n cap), (4, .pointer (some ⟨w.heap.size, 0, none⟩)), (5, .pointer (some ⟨w.heap.size + 1, 0, none⟩)), (7, .slice (some ⟨gA, 0, none⟩) n (n + 64)), (8, .pointer (some ⟨b8, 0, none⟩)), (9, .slice Va l.length ka), (11, .slice Vb l.length kb), (15, .slice Vp R.length kp), (17, .slice Vq R.length kq)] a' → Below X.heap.size X Y → (wtT 15).wp Tryz.prog Q a' Y))
    (HS : Hid (WtS w X w.heap.size (w.heap.size + 1) b8 gA g1 g2 VA VB ca cb L cells free W p))
    (ha : FrN 183 [] [(0, .slice A n cap), (4, .pointer (some ⟨w.heap.size, 0, none⟩)), (5, .pointer (some ⟨w.heap.size + 1, 0, none⟩)), (7, .slice (some ⟨gA, 0, none⟩) n (n + 64)), (8, .pointer (some ⟨b8, 0, none⟩)), (9, .slice Va l.length ka), (11, .slice Vb l.length kb), (15, .slice Vp R.length kp), (17, .slice Vq R.length kq)] a) : (wtT 13).wp Tryz.prog Q a X := by
  subst hn
  obtain ⟨U, rfl, e0, e4, e5, e7, e8, e9, e11, e15, e17, -⟩ := ha.openWT
  unfold FrWT
  simp only [e0, e4, e5, e7, e8, e9, e11, e15, e17]
  clear e0 e4 e5 e7 e8 e9 e11 e15 e17 ha
  show (Code.seq _ _).wp _ _ _ _
  have HW : Hid (∀ Z, Below X.heap.size X Z → Below w.heap.size w Z) := fun Z hz => HS.out.bel.trans (hz.mono HS.out.bel.size)
  have E1 : Hid (∀ Z, Below X.heap.size X Z → Calls Tryz.prog 14 #[.slice (some ⟨gA, 0, none⟩) L.length (L.length + 64), .slice A L.length cap] Z fun e w' => e = .returned (.bool true) ∧ Below Z.heap.size Z w') := fun Z hz => eq_agents _ A _ _ _ cap L Z rfl rfl hl (Lib.hid (HS.out.below hz).rd.a) (Lib.hid (HR.out.a.below (HW.out Z hz)))
  have E2 : Hid (∀ Z, Below X.heap.size X Z → Calls Tryz.prog 15 #[.slice (some ⟨gA, 0, none⟩) L.length (L.length + 64)] Z fun e w' => e = .returned (.bool true) ∧ Below Z.heap.size Z w') := fun Z hz => spare_agents gA _ _ L Z rfl rfl hl (Lib.hid (HS.out.below hz).ag)
  have E3 : Hid (∀ Z, Below X.heap.size X Z → Calls Tryz.prog 16 #[.agg #[.slice (some ⟨g1, 0, none⟩) cells.length (cells.length + 64), .int .i64 free, .slice (some ⟨g2, 0, none⟩) W.length (W.length + 64)], .agg #[.slice VA cells.length ca, .int .i64 free, .slice VB W.length cb]] Z fun e w' => e = .returned (.bool true) ∧ Below Z.heap.size Z w') := fun Z hz => by
    refine (eq_net _ _ VA VB _ _ ca cb cells cells free free W W Z (by omega) (by omega) (by omega) (by omega) (Lib.hid (HS.out.below hz).rd.c) (Lib.hid (HS.out.below hz).rd.w) (Lib.hid (HR.out.c.below (HW.out Z hz))) (Lib.hid (HR.out.w.below (HW.out Z hz)))).mono ?_
    rintro e w1 ⟨rfl, hb⟩
    exact ⟨by simp, hb⟩
  have E4 : Hid (∀ Z, Below X.heap.size X Z → Calls Tryz.prog 17 #[.agg #[.slice (some ⟨g1, 0, none⟩) cells.length (cells.length + 64), .int .i64 free, .slice (some ⟨g2, 0, none⟩) W.length (W.length + 64)]] Z fun e w' => e = .returned (.bool true) ∧ Below Z.heap.size Z w') := fun Z hz => spare_net g1 g2 cells free W Z (by omega) (by omega) (Lib.hid (HS.out.below hz).wd)
  have HBz : Hid (Below X.heap.size X X) := Below.refl _ _
  clear hl hcw
  have q0 := (HS.out).nb
  have c0 := q0.c0
  have c1 := q0.c1
  have c2 := q0.c2
  have clt := q0.lt
  have q1 := (HS.out).n8
  have d0 := q1.c0
  have d1 := q1.c1
  have d2 := q1.c2
  have dlt := q1.lt
  clear q0 q1
  go_wp2_with fail
  refine (E1.out _ HBz.out).mono ?_
  rintro e w1 ⟨rfl, hb1⟩
  have HBz := Lib.hid (HBz.out.trans (hb1.mono HBz.out.size))
  clear hb1 c0 c1 c2 clt d0 d1 d2 dlt
  have q0 := (HS.out.below HBz.out).nb
  have c0 := q0.c0
  have c1 := q0.c1
  have c2 := q0.c2
  have clt := q0.lt
  have q1 := (HS.out.below HBz.out).n8
  have d0 := q1.c0
  have d1 := q1.c1
  have d2 := q1.c2
  have dlt := q1.lt
  clear q0 q1
  simp only []
  go_wp2_with fail
  refine (E2.out _ HBz.out).mono ?_
  rintro e w2 ⟨rfl, hb1⟩
  have HBz := Lib.hid (HBz.out.trans (hb1.mono HBz.out.size))
  clear hb1 c0 c1 c2 clt d0 d1 d2 dlt
  have q0 := (HS.out.below HBz.out).nb
  have c0 := q0.c0
  have c1 := q0.c1
  have c2 := q0.c2
  have clt := q0.lt
  have q1 := (HS.out.below HBz.out).n8
  have d0 := q1.c0
  have d1 := q1.c1
  have d2 := q1.c2
  have dlt := q1.lt
  clear q0 q1
  simp only []
  go_wp2_with fail
  refine (E3.out _ HBz.out).mono ?_
  rintro e w3 ⟨rfl, hb1⟩
  have HBz := Lib.hid (HBz.out.trans (hb1.mono HBz.out.size))
  clear hb1 c0 c1 c2 clt d0 d1 d2 dlt
  have q0 := (HS.out.below HBz.out).nb
  have c0 := q0.c0
  have c1 := q0.c1
  have c2 := q0.c2
  have clt := q0.lt
  have q1 := (HS.out.below HBz.out).n8
  have d0 := q1.c0
  have d1 := q1.c1
  have d2 := q1.c2
  have dlt := q1.lt
  clear q0 q1
  simp only []
  go_wp2_with fail
  refine (E4.out _ HBz.out).mono ?_
  rintro e w4 ⟨rfl, hb1⟩
  have HBz := Lib.hid (HBz.out.trans (hb1.mono HBz.out.size))
  clear hb1 c0 c1 c2 clt d0 d1 d2 dlt
  simp only []
  iterate 80 (first | (with_reducible refine at_seq3 15 ?_) | (with_reducible refine at_seq2 15 ?_) | (with_reducible refine at_seq 15 ?_) | go_values | go_skip | go_guarded | go_step | go_upon | go_back | go_simp)
  exact hnext.out _ _ ⟨rfl, rfl, rfl, rfl, rfl, rfl, rfl, rfl, rfl, rfl, rfl, trivial⟩ HBz.out
end
end Go.Proofs.YtkonfogebepccaaGreatDoor
/-
  skeinref00.Bag, made at a world of which nothing is touched: one more list; are they apart?
-/
namespace Go.Proofs.YtkonfogebepccaaGreatDoor
open Go.RowKit
attribute [local go_sem] cell_set
set_option maxRecDepth 100000
set_option linter.unusedVariables false

/-- A bag at block G in world X, made behind world b. -/
def BagA (b X : World) (G : Nat) (li lp lw lq : List Value) : Prop :=
  ∃ si sp sw sq, BagW X G si sp sw sq li lp lw lq ∧ b.heap.size ≤ G ∧ (∀ k, (k ∈ ownB si ∨ k ∈ ownB sp ∨ k ∈ ownB sw ∨ k ∈ ownB sq) → b.heap.size ≤ k) ∧ Below b.heap.size b X
theorem BagA.new (b : World) : BagA b (b.alloc (.cells #[.slice none 0 0, .slice none 0 0, .slice none 0 0, .slice none 0 0, .slice none 0 0, .slice none 0 0, .slice none 0 0, .slice none 0 0, .slice none 0 0, .slice none 0 0, .slice none 0 0, .slice none 0 0] 62)) b.heap.size [] [] [] [] :=
  ⟨_, _, _, _, BagW.new b, Nat.le_refl _, by simp [ownB], (Below.refl _ _).alloc (Nat.le_refl _) _⟩
theorem BagA.below {b X : World} {G : Nat} {li lp lw lq : List Value} (h : BagA b X G li lp lw lq) : Below b.heap.size b X := by obtain ⟨_, _, _, _, _, _, _, h⟩ := h; exact h
theorem BagA.later {b X X' : World} {G : Nat} {li lp lw lq : List Value} (h : BagA b X G li lp lw lq) (hb : Below X.heap.size X X') : BagA b X' G li lp lw lq := by
  obtain ⟨si, sp, sw, sq, h1, h2, h3, h4⟩ := h
  exact ⟨si, sp, sw, sq, h1.below hb, h2, h3, h4.trans (hb.mono h4.size)⟩
theorem BagA.drew {b X : World} {G : Nat} {li lp lw lq : List Value} (h : BagA b X G li lp lw lq) : BagA b X.drew G li lp lw lq := h.later ((Below.refl _ _).drew)
theorem bag_ints {b w : World} {G : Nat} {li lp lw lq : List Value} (A : Option Addr) (n cp : Nat) (HB : Hid (BagA b w G li lp lw lq)) (hl : li.length < 300) :
    Calls Tryz.prog 18 #[.pointer (some ⟨G, 0, none⟩), .slice A n cp] w fun e w' => e = .returned (.tuple #[]) ∧ BagA b w' G (li ++ [.slice A n cp]) lp lw lq ∧ ∀ (k : Nat) (cur : Array Value) (t : TypeId), w.heap[k]? = some (Obj.cells cur t (0, 0)) → t ≠ 62 → t ≠ 23 → w'.heap[k]? = some (Obj.cells cur t (0, 0)) := by
  obtain ⟨si, sp, sw, sq, h1, h2, h3, h4⟩ := HB.out
  refine (add_i A n cp (Lib.hid h1) hl).mono ?_
  rintro e w' ⟨rfl, s', r1, r2, r3⟩
  refine ⟨rfl, ⟨s', sp, sw, sq, r1, h2, fun k hk => ?_, ?_⟩, fun k cur t hk ht1 ht2 => (r2.block k (heap_lt hk) (fun hm => ?_)).trans hk⟩
  · rcases hk with hk | hk | hk | hk
    · rcases r3 k hk with hh | hh
      · exact h3 k (.inl hh)
      · have := h4.size; omega
    · exact h3 k (.inr (.inl hk))
    · exact h3 k (.inr (.inr (.inl hk)))
    · exact h3 k (.inr (.inr (.inr hk)))
  · refine h4.trans (r2.below h4.size (fun k hk => ?_))
    rcases List.mem_cons.1 hk with rfl | hk
    · exact h2
    · exact h3 k (.inl hk)
  · rcases List.mem_cons.1 hm with rfl | hm
    · exact ty_no hk h1.blk ht1
    · obtain ⟨c9, h9⟩ := row_block h1.ri k hm
      exact ty_no hk h9 ht2
/-- Lists of a kind: slices, their lengths. -/
def vec (l : List Value) : Nat → Value := fun i => l.getD i (.slice none 0 0)
def lenV : Value → Nat
  | .slice _ n _ => n
  | _ => 0
theorem range_vec (l : List Value) : (List.range l.length).map (vec l) = l := by
  refine List.ext_getElem (by simp) fun i h1 h2 => ?_
  simp [vec, h2]
/-- Lists of a kind that are apart: each a row of its own. -/
structure Own (w : World) (e : TypeId) (size : Nat) (l : List Value) : Prop where
  row : ∀ u ∈ l, ∃ xs, Row w e size u (lenV u) xs
  dj : l.Pairwise fun u u' => ∀ b ∈ ownB u, b ∉ ownB u'
  le : ∀ u ∈ l, lenV u ≤ 1000000
  n : l.length ≤ 300
theorem Own.nil (w : World) (e : TypeId) (size : Nat) : Own w e size [] := ⟨by simp, List.Pairwise.nil, by simp, by simp⟩
theorem Own.cons {w : World} {e : TypeId} {size : Nat} {l : List Value} {A : Option Addr} {n cp : Nat} {xs : List Value} (h : Own w e size l) (hr : Row w e size (.slice A n cp) n xs) (hd : ∀ u ∈ l, ∀ b ∈ ownB (.slice A n cp), b ∉ ownB u) (hn : n ≤ 1000000) (hl : l.length + 1 ≤ 300) : Own w e size (.slice A n cp :: l) := by
  refine ⟨fun u hu => ?_, List.Pairwise.cons hd h.dj, fun u hu => ?_, by simpa using hl⟩
  · rcases List.mem_cons.1 hu with rfl | hu
    · exact ⟨xs, hr⟩
    · exact h.row u hu
  · rcases List.mem_cons.1 hu with rfl | hu
    · exact hn
    · exact h.le u hu
theorem Own.ls {w : World} {e : TypeId} {size : Nat} {l : List Value} (h : Own w e size l) : LsOk w e size l.length (vec l) (fun i => lenV (vec l i)) := by
  have hm : ∀ i, i < l.length → vec l i ∈ l := fun i hi => by simp [vec, List.getD_eq_getElem?_getD, hi]
  have ha : ∀ i (hi : i < l.length), vec l i = l[i] := fun i hi => by simp [vec, List.getD_eq_getElem?_getD, hi]
  refine ⟨fun i hi => h.row _ (hm i hi), fun i j hi hj hij b hb hb' => ?_, fun i hi => h.le _ (hm i hi), h.n⟩
  rw [ha i hi] at hb
  rw [ha j hj] at hb'
  have hp := List.pairwise_iff_getElem.1 h.dj
  rcases Nat.lt_or_gt_of_ne hij with h1 | h1
  · exact hp i j hi hj h1 b hb hb'
  · exact hp j i hj hi h1 b hb' hb
def ownL (l : List Value) : List Nat := l.flatMap ownB
theorem blks_vec {l : List Value} {b : Nat} (h : b ∈ blks l.length (vec l)) : b ∈ ownL l := by
  obtain ⟨i, hi, hb⟩ := blks_mem.1 h
  refine List.mem_flatMap.2 ⟨vec l i, by simp [vec, List.getD_eq_getElem?_getD, hi], hb⟩
theorem bag_apartA {b w : World} {G : Nat} {li lp lw lq : List Value} (HB : Hid (BagA b w G li lp lw lq)) (Hi : Hid (Own w 3 1 li)) (Hp : Hid (Own w 28 2 lp)) (Hw : Hid (Own w 102 4 lw)) (Hq : Hid (Own w 119 2 lq)) :
    Calls Tryz.prog 19 #[.pointer (some ⟨G, 0, none⟩)] w fun e w' => e = .returned (.bool true) ∧ Kp (ownL li ++ (ownL lp ++ (ownL lw ++ ownL lq))) w w' := by
  obtain ⟨si, sp, sw, sq, h1, h2, h3, h4⟩ := HB.out
  refine (bag_apart li.length (vec li) (fun i => lenV (vec li i)) lp.length (vec lp) (fun i => lenV (vec lp i)) lw.length (vec lw) (fun i => lenV (vec lw i)) lq.length (vec lq) (fun i => lenV (vec lq i)) (Lib.hid (by rw [range_vec, range_vec, range_vec, range_vec]; exact h1)) (Lib.hid Hi.out.ls) (Lib.hid Hp.out.ls) (Lib.hid Hw.out.ls) (Lib.hid Hq.out.ls)).mono ?_
  rintro e w' ⟨rfl, hk⟩
  refine ⟨rfl, hk.mono (fun k hk => ?_)⟩
  simp only [List.mem_append] at hk ⊢
  rcases hk with hk | hk | hk | hk
  · exact .inl (blks_vec hk)
  · exact .inr (.inl (blks_vec hk))
  · exact .inr (.inr (.inl (blks_vec hk)))
  · exact .inr (.inr (.inr (blks_vec hk)))
end Go.Proofs.YtkonfogebepccaaGreatDoor
namespace Go.Proofs.YtkonfogebepccaaGreatDoor
open Go.RowKit
set_option maxRecDepth 100000
set_option linter.unusedVariables false
def bagL (x y : Value) (qs rs : List PV) (j : Nat) : List Value := [x, y] ++ (List.range j).flatMap fun i => [vec (pvCells qs) (i * 2), vec (pvCells qs) (i * 2 + 1), vec (pvCells rs) (i * 2), vec (pvCells rs) (i * 2 + 1)]
theorem bagL_succ (x y : Value) (qs rs : List PV) (j : Nat) : bagL x y qs rs (j + 1) = bagL x y qs rs j ++ [vec (pvCells qs) (j * 2)] ++ [vec (pvCells qs) (j * 2 + 1)] ++ [vec (pvCells rs) (j * 2)] ++ [vec (pvCells rs) (j * 2 + 1)] := by
  unfold bagL
  rw [List.range_succ, List.flatMap_append]
  simp
theorem bagL_len (x y : Value) (qs rs : List PV) (j : Nat) : (bagL x y qs rs j).length = 2 + 4 * j := by
  induction j with
  | zero => rfl
  | succ j ih => rw [bagL_succ]; simp [ih]; omega
theorem vec_mem {l : List Value} {k : Nat} (h : k < l.length) : vec l k ∈ l := by
  unfold vec
  rw [List.getD_eq_getElem?_getD, List.getElem?_eq_getElem h]; exact List.getElem_mem h
theorem vec_at {l : List Value} {k : Nat} (h : k < l.length) : vec l k = l[k] := by
  unfold vec
  rw [List.getD_eq_getElem?_getD, List.getElem?_eq_getElem h]; rfl
theorem PaS.own {w X : World} {v : Value} {qs : List PV} (h : PaS w X v qs) {Q : List Pa} (hm : qs.map paW = Q) (hQ : LenP Q) {u : Value} (hu : u ∈ pvCells qs) : ∃ V n c xs, u = .slice V n c ∧ Row X 3 1 (.slice V n c) n xs ∧ n ≤ 100000 := by
  obtain ⟨q, hq, hu⟩ := pv_mem hu
  obtain ⟨ra, rb⟩ := h.q1 q hq
  have hl := hQ.2 (paW q) (by rw [← hm]; exact List.mem_map.2 ⟨q, hq, rfl⟩)
  rcases hu with rfl | rfl
  · obtain ⟨V, c, e, _⟩ := ra.len
    rw [e] at ra ⊢
    exact ⟨V, _, c, _, rfl, ra, hl.1⟩
  · obtain ⟨V, c, e, _⟩ := rb.len
    rw [e] at rb ⊢
    exact ⟨V, _, c, _, rfl, rb, hl.2⟩
theorem PaS.ap {w X : World} {v : Value} {qs : List PV} (h : PaS w X v qs) {i j : Nat} (hi : i < j) (hj : j < (pvCells qs).length) : ∀ b ∈ ownB (vec (pvCells qs) i), b ∉ ownB (vec (pvCells qs) j) := by
  have hi2 : i < (pvCells qs).length := by omega
  rw [vec_at hi2, vec_at hj]
  exact List.pairwise_iff_getElem.1 h.dj i j hi2 hj hi
section
variable {w X : World} {Va Vb Vf Vp Vq Vr : Option Addr} {ka kb kf kp kq kr : Nat} {l : List Int} {Q : List Pa} {qs rs ds : List PV}
theorem WtN.lens (h : WtN w X Va Vb Vf Vp Vq Vr ka kb kf kp kq kr l Q qs rs ds) : (pvCells qs).length = Q.length * 2 ∧ (pvCells rs).length = Q.length * 2 := by
  rw [pvCells_len, pvCells_len]
  constructor
  · rw [← h.pm, List.length_map]
  · rw [← h.qm, List.length_map]
theorem bag_own (h : WtN w X Va Vb Vf Vp Vq Vr ka kb kf kp kq kr l Q qs rs ds) (hl : l.length ≤ 100000) (hQ : LenP Q) {j : Nat} (hj : j ≤ Q.length) (hj2 : j ≤ 40) : Own X 3 1 (bagL (.slice Va l.length ka) (.slice Vb l.length kb) qs rs j) := by
  obtain ⟨n1, n2⟩ := h.lens
  have hin : ∀ {u : Value}, u ∈ bagL (.slice Va l.length ka) (.slice Vb l.length kb) qs rs j → (∃ V n c xs, u = .slice V n c ∧ Row X 3 1 (.slice V n c) n xs ∧ n ≤ 100000) := fun {u} hu => by
    unfold bagL at hu
    rcases List.mem_append.1 hu with hu | hu
    · simp at hu
      rcases hu with rfl | rfl
      · exact ⟨_, _, _, _, rfl, h.a.1, hl⟩
      · exact ⟨_, _, _, _, rfl, h.b.1, hl⟩
    · obtain ⟨i, hi, hu⟩ := List.mem_flatMap.1 hu
      have hi := List.mem_range.1 hi
      simp only [List.mem_cons, List.not_mem_nil, or_false] at hu
      rcases hu with rfl | rfl | rfl | rfl
      · exact h.p.own h.pm hQ (vec_mem (by omega))
      · exact h.p.own h.pm hQ (vec_mem (by omega))
      · exact h.q.own h.qm hQ (vec_mem (by omega))
      · exact h.q.own h.qm hQ (vec_mem (by omega))
  refine ⟨fun u hu => ?_, ?_, fun u hu => ?_, by rw [bagL_len]; omega⟩
  · obtain ⟨V, n, c, xs, rfl, hr, _⟩ := hin hu
    exact ⟨xs, hr⟩
  · unfold bagL
    have qp : ∀ u ∈ pvCells rs, ∀ t ∈ ownB u, ∀ u' ∈ pvCells qs, t ∉ ownB u' := fun u hu t ht u' hu' ht' => h.pq u' hu' t ht' u hu ht
    refine List.pairwise_append.2 ⟨?_, List.pairwise_flatMap.2 ⟨fun i hi => ?_, List.pairwise_iff_getElem.2 fun i i' hi hi' hlt x hx y hy => ?_⟩, fun x hx y hy => ?_⟩
    · refine List.Pairwise.cons (fun y hy => ?_) (List.Pairwise.cons (by simp) List.Pairwise.nil)
      simp at hy; subst hy; exact h.ab
    · have hi := List.mem_range.1 hi
      have m0 : vec (pvCells qs) (i * 2) ∈ pvCells qs := vec_mem (by omega)
      have m1 : vec (pvCells qs) (i * 2 + 1) ∈ pvCells qs := vec_mem (by omega)
      have m2 : vec (pvCells rs) (i * 2) ∈ pvCells rs := vec_mem (by omega)
      have m3 : vec (pvCells rs) (i * 2 + 1) ∈ pvCells rs := vec_mem (by omega)
      refine List.Pairwise.cons (fun y hy => ?_) (List.Pairwise.cons (fun y hy => ?_) (List.Pairwise.cons (fun y hy => ?_) (List.Pairwise.cons (by simp) List.Pairwise.nil)))
      · simp only [List.mem_cons, List.not_mem_nil, or_false] at hy
        rcases hy with rfl | rfl | rfl
        · exact h.p.ap (by omega) (by omega)
        · exact fun b hb => h.pq _ m0 b hb _ m2
        · exact fun b hb => h.pq _ m0 b hb _ m3
      · simp only [List.mem_cons, List.not_mem_nil, or_false] at hy
        rcases hy with rfl | rfl
        · exact fun b hb => h.pq _ m1 b hb _ m2
        · exact fun b hb => h.pq _ m1 b hb _ m3
      · simp only [List.mem_cons, List.not_mem_nil, or_false] at hy
        subst hy
        exact h.q.ap (by omega) (by omega)
    · simp only [List.length_range] at hi hi'
      simp only [List.getElem_range, List.mem_cons, List.not_mem_nil, or_false] at hx hy
      have mp : ∀ k, k < Q.length * 2 → vec (pvCells qs) k ∈ pvCells qs := fun k hk => vec_mem (by omega)
      have mq : ∀ k, k < Q.length * 2 → vec (pvCells rs) k ∈ pvCells rs := fun k hk => vec_mem (by omega)
      rcases hx with rfl | rfl | rfl | rfl <;> rcases hy with rfl | rfl | rfl | rfl
      all_goals first
        | exact h.p.ap (by omega) (by omega)
        | exact h.q.ap (by omega) (by omega)
        | exact fun b hb => h.pq _ (mp _ (by omega)) b hb _ (mq _ (by omega))
        | exact fun b hb => qp _ (mq _ (by omega)) b hb _ (mp _ (by omega))
    · obtain ⟨i, hi, hy⟩ := List.mem_flatMap.1 hy
      have hi := List.mem_range.1 hi
      have mp : ∀ k, k < Q.length * 2 → vec (pvCells qs) k ∈ pvCells qs := fun k hk => vec_mem (by omega)
      have mq : ∀ k, k < Q.length * 2 → vec (pvCells rs) k ∈ pvCells rs := fun k hk => vec_mem (by omega)
      simp only [List.mem_cons, List.not_mem_nil, or_false] at hx hy
      rcases hx with rfl | rfl <;> rcases hy with rfl | rfl | rfl | rfl
      all_goals first
        | exact fun b hb => h.ap b hb _ (mp _ (by omega))
        | exact fun b hb => h.aq b hb _ (mq _ (by omega))
        | exact fun b hb => h.bp b hb _ (mp _ (by omega))
        | exact fun b hb => h.bq b hb _ (mq _ (by omega))
  · obtain ⟨V, n, c, xs, rfl, _, hn⟩ := hin hu
    show n ≤ 1000000; omega
/-- All of it was made since w. -/
theorem bag_lo (h : WtN w X Va Vb Vf Vp Vq Vr ka kb kf kp kq kr l Q qs rs ds) {j : Nat} (hj : j ≤ Q.length) : ∀ b ∈ ownL (bagL (.slice Va l.length ka) (.slice Vb l.length kb) qs rs j), w.heap.size ≤ b := fun b hb => by
  obtain ⟨n1, n2⟩ := h.lens
  obtain ⟨u, hu, hb⟩ := List.mem_flatMap.1 hb
  unfold bagL at hu
  rcases List.mem_append.1 hu with hu | hu
  · simp at hu
    rcases hu with rfl | rfl
    · exact h.a.2.1 b hb
    · exact h.b.2.1 b hb
  · obtain ⟨i, hi, hu⟩ := List.mem_flatMap.1 hu
    have hi := List.mem_range.1 hi
    simp only [List.mem_cons, List.not_mem_nil, or_false] at hu
    rcases hu with rfl | rfl | rfl | rfl
    · exact h.p.lo _ (vec_mem (by omega)) b hb
    · exact h.p.lo _ (vec_mem (by omega)) b hb
    · exact h.q.lo _ (vec_mem (by omega)) b hb
    · exact h.q.lo _ (vec_mem (by omega)) b hb
end
end Go.Proofs.YtkonfogebepccaaGreatDoor
namespace Go.Proofs.YtkonfogebepccaaGreatDoor
open Go.RowKit Go.Shelf
attribute [local go_sem] cell_set
attribute [local go_sem] Oper.semAt_some
set_option maxRecDepth 100000
set_option linter.unusedVariables false
section
variable (Q : Exit → Act → World → Prop) (w X : World) (Va Vb Vf Vp Vq Vr : Option Addr) (ka kb kf kp kq kr G N : Nat) (l : List Int) (R : List Pa) (qs rs ds : List PV)
set_option maxHeartbeats 4000000 in
theorem wt_19 (a : Act) (Y : World) (i : Nat) (hN : R.length = N) (hi : i ≤ 40) (hi2 : i ≤ N) (hN5 : N ≤ 100000) (HT : Hid (WtN w X Va Vb Vf Vp Vq Vr ka kb kf kp kq kr l R qs rs ds)) (hQ : LenP R)
    (HB : Hid (BagA X Y G (bagL (.slice Va l.length ka) (.slice Vb l.length kb) qs rs i) [] [] []))
    (hgo : Hid (∀ a' Y', i < 40 → i < N → FrN 183 [] [(15, .slice Vp N kp), (17, .slice Vq N kq), (21, .pointer (some ⟨G, 0, none⟩)), (22, .int .i64 ((i + 1 : Nat) : Int))] a' → BagA X Y' G (bagL (.slice Va l.length ka) (.slice Vb l.length kb) qs rs (i + 1)) [] [] [] → Q .normal a' Y'))
    (hout : Hid (∀ a' Y', FrN 183 [] [(15, .slice Vp N kp), (17, .slice Vq N kq), (21, .pointer (some ⟨G, 0, none⟩))] a' → BagA X Y' G (bagL (.slice Va l.length ka) (.slice Vb l.length kb) qs rs i) [] [] [] → Q (.exit 0) a' Y'))
    (ha : FrN 183 [] [(15, .slice Vp N kp), (17, .slice Vq N kq), (21, .pointer (some ⟨G, 0, none⟩)), (22, .int .i64 (i : Int))] a) : (wtT 19).wp Tryz.prog Q a Y := by
  obtain ⟨U, rfl, e15, e17, e21, e22, -⟩ := ha.openWT
  unfold FrWT
  simp only [e15, e17, e21, e22]
  clear e15 e17 e21 e22 ha
  show (Code.seq _ _).wp _ _ _ _
  have HN := Lib.hid (And.intro hN hQ)
  clear hN hQ
  by_cases hlt : i < N
  · have hiN : (i : Int) < (N : Int) := by omega
    by_cases h40 : i < 40
    · have h40' : (i : Int) < 40 := by omega
      have HLT := Lib.hid (And.intro h40 hlt)
      obtain ⟨n1, n2⟩ := HT.out.lens
      rw [HN.out.1] at n1 n2
      have hql : i < qs.length := by have := pvCells_len qs; omega
      have hrl : i < rs.length := by have := pvCells_len rs; omega
      obtain ⟨Ua, na, ca, xa, ea, _, _⟩ := HT.out.p.own HT.out.pm HN.out.2 (vec_mem (l := pvCells qs) (k := i * 2) (by omega))
      obtain ⟨Ub, nb, cb, xb, eb, _, _⟩ := HT.out.p.own HT.out.pm HN.out.2 (vec_mem (l := pvCells qs) (k := i * 2 + 1) (by omega))
      obtain ⟨Uc, nc, cc, xc, ec, _, _⟩ := HT.out.q.own HT.out.qm HN.out.2 (vec_mem (l := pvCells rs) (k := i * 2) (by omega))
      obtain ⟨Ud, nd, cd, xd, ed, _, _⟩ := HT.out.q.own HT.out.qm HN.out.2 (vec_mem (l := pvCells rs) (k := i * 2 + 1) (by omega))
      obtain ⟨gp, rfl⟩ : ∃ g, Vp = some ⟨g, 0, none⟩ := by
        rcases HT.out.p.lr.2 with ⟨e, h0⟩ | ⟨gv, cap', cur, e, _⟩
        · omega
        · injection e with e1; exact ⟨gv, e1⟩
      obtain ⟨gq, rfl⟩ : ∃ g, Vq = some ⟨g, 0, none⟩ := by
        rcases HT.out.q.lr.2 with ⟨e, h0⟩ | ⟨gv, cap', cur, e, _⟩
        · omega
        · injection e with e1; exact ⟨gv, e1⟩
      have HC : Hid (∀ Z, Below X.heap.size X Z → Z.cell? ⟨gp, i * 2, none⟩ = some (.slice Ua na ca) ∧ Z.cell? ⟨gp, i * 2 + 1, none⟩ = some (.slice Ub nb cb) ∧ Z.cell? ⟨gq, i * 2, none⟩ = some (.slice Uc nc cc) ∧ Z.cell? ⟨gq, i * 2 + 1, none⟩ = some (.slice Ud nd cd) ∧ gp < Z.heap.size ∧ gq < Z.heap.size) := fun Z hz => by
        have hp := (HT.out.below hz).p.lr
        have hq := (HT.out.below hz).q.lr
        have l1 : qs.length = R.length := by have := congrArg List.length HT.out.pm; simpa using this
        have l2 : rs.length = R.length := by have := congrArg List.length HT.out.qm; simpa using this
        rw [l1] at hp
        rw [l2] at hq
        have v0 := vec_at (l := pvCells qs) (k := i * 2) (by omega)
        have v1 := vec_at (l := pvCells qs) (k := i * 2 + 1) (by omega)
        have v2 := vec_at (l := pvCells rs) (k := i * 2) (by omega)
        have v3 := vec_at (l := pvCells rs) (k := i * 2 + 1) (by omega)
        rw [ea] at v0
        rw [eb] at v1
        rw [ec] at v2
        rw [ed] at v3
        have hNR := HN.out.1
        refine ⟨?_, ?_, ?_, ?_, hp.lt gp (by simp [ownB]), hq.lt gq (by simp [ownB])⟩
        · rw [hp.cellAt (i * 2) (by omega), List.getElem?_eq_getElem (by omega), ← v0]
        · rw [hp.cellAt (i * 2 + 1) (by omega), List.getElem?_eq_getElem (by omega), ← v1]
        · rw [hq.cellAt (i * 2) (by omega), List.getElem?_eq_getElem (by omega), ← v2]
        · rw [hq.cellAt (i * 2 + 1) (by omega), List.getElem?_eq_getElem (by omega), ← v3]
      have HS : Hid (bagL (.slice Va l.length ka) (.slice Vb l.length kb) qs rs (i + 1) = bagL (.slice Va l.length ka) (.slice Vb l.length kb) qs rs i ++ [.slice Ua na ca] ++ [.slice Ub nb cb] ++ [.slice Uc nc cc] ++ [.slice Ud nd cd]) := by
        show _ = _
        rw [bagL_succ, ea, eb, ec, ed]
      have HB0 := HB
      clear ea eb ec ed n1 n2 hql hrl hlt h40 HB
      obtain ⟨x0, x1, y0, y1, xl, yl⟩ := HC.out _ HB0.out.below
      go_wp2_with fail
      refine (bag_ints Ua _ ca HB0 (by (try simp only [List.length_append, List.length_singleton]); rw [bagL_len]; omega)).mono ?_
      rintro e Y1 ⟨rfl, hB1, _⟩
      have HB1 := Lib.hid hB1
      clear hB1
      simp only []
      clear x0 x1 y0 y1 xl yl
      obtain ⟨x0, x1, y0, y1, xl, yl⟩ := HC.out _ HB1.out.below
      go_wp2_with fail
      refine (bag_ints Ub _ cb HB1 (by (try simp only [List.length_append, List.length_singleton]); rw [bagL_len]; omega)).mono ?_
      rintro e Y2 ⟨rfl, hB2, _⟩
      have HB2 := Lib.hid hB2
      clear hB2
      simp only []
      clear x0 x1 y0 y1 xl yl
      obtain ⟨x0, x1, y0, y1, xl, yl⟩ := HC.out _ HB2.out.below
      go_wp2_with fail
      refine (bag_ints Uc _ cc HB2 (by (try simp only [List.length_append, List.length_singleton]); rw [bagL_len]; omega)).mono ?_
      rintro e Y3 ⟨rfl, hB3, _⟩
      have HB3 := Lib.hid hB3
      clear hB3
      simp only []
      clear x0 x1 y0 y1 xl yl
      obtain ⟨x0, x1, y0, y1, xl, yl⟩ := HC.out _ HB3.out.below
      go_wp2_with fail
      refine (bag_ints Ud _ cd HB3 (by (try simp only [List.length_append, List.length_singleton]); rw [bagL_len]; omega)).mono ?_
      rintro e Y4 ⟨rfl, hB4, _⟩
      have HB4 := Lib.hid hB4
      clear hB4
      simp only []
      clear x0 x1 y0 y1 xl yl
      repeat (first | go_values | go_skip | go_guarded | go_step | go_upon | go_back)
      exact hgo.out _ _ HLT.out.1 HLT.out.2 ⟨rfl, rfl, rfl, rfl, rfl, rfl, trivial⟩ (by rw [HS.out]; exact HB4.out)
    · have h40' : ¬ (i : Int) < 40 := by omega
      clear hlt h40
      repeat (first | go_values | go_skip | go_guarded | go_step | go_upon | go_back)
      exact hout.out _ _ ⟨rfl, rfl, rfl, rfl, rfl, trivial⟩ HB.out
  · have hiN : ¬ (i : Int) < (N : Int) := by omega
    clear hlt
    repeat (first | go_values | go_skip | go_guarded | go_step | go_upon | go_back)
    exact hout.out _ _ ⟨rfl, rfl, rfl, rfl, rfl, trivial⟩ HB.out
end
section
variable (Q : Exit → Act → World → Prop) (A : Option Addr) (n cap : Nat) (w : World)
set_option maxHeartbeats 4000000 in
theorem wt_15 (a : Act) (X : World) (b8 gA : Nat) (l : List Int) (R : List Pa) (Va Vb Vf Vp Vq Vr : Option Addr) (ka kb kf kp kq kr : Nat) (qs rs ds : List PV) (h1 : l.length ≤ 100000) (hQ : LenP R)
    (hret : Hid (∀ a' X, FrN 183 [] [(6, .bool true)] a' → Below w.heap.size w X → Q .ret a' X))
    (hbw : Hid (Below w.heap.size w X)) (HT : Hid (WtN w X Va Vb Vf Vp Vq Vr ka kb kf kp kq kr l R qs rs ds))
    (ha : FrN 183 [] [(0, .slice A n cap), (4, .pointer (some ⟨w.heap.size, 0, none⟩)), (5, .pointer (some ⟨w.heap.size + 1, 0, none⟩)), (7, .slice (some ⟨gA, 0, none⟩) n (n + 64)), (8, .pointer (some ⟨b8, 0, none⟩)), (9, .slice Va l.length ka), (11, .slice Vb l.length kb), (15, .slice Vp R.length kp), (17, .slice Vq R.length kq)] a) : (wtT 15).wp Tryz.prog Q a X := by
  obtain ⟨U, rfl, e0, e4, e5, e7, e8, e9, e11, e15, e17, -⟩ := ha.openWT
  obtain ⟨N, hN⟩ : ∃ N, R.length = N := ⟨_, rfl⟩
  have HN := Lib.hid (And.intro hN (And.intro hQ h1))
  have hN5 : N ≤ 100000 := by rw [← hN]; exact hQ.1
  rw [hN] at e15 e17
  unfold FrWT
  simp only [e0, e4, e5, e7, e8, e9, e11, e15, e17]
  clear e0 e4 e5 e7 e8 e9 e11 e15 e17 ha hN hQ h1
  show (Code.seq _ _).wp _ _ _ _
  go_upto_region 16 with fail
  refine absW (fun Y => BagA X Y X.heap.size [] [] [] []) (BagA.new X) ?_
  intro Y0 hB0
  have HB0 := Lib.hid hB0
  clear hB0
  go_wp2_with fail
  refine (bag_ints Va _ ka HB0 (by simp)).mono ?_
  rintro e Y1 ⟨rfl, hB1, _⟩
  have HB1 := Lib.hid hB1
  clear hB1
  simp only []
  go_wp2_with fail
  refine (bag_ints Vb _ kb HB1 (by simp)).mono ?_
  rintro e Y2 ⟨rfl, hB2, _⟩
  have HB2 := Lib.hid hB2
  clear hB2
  simp only []
  go_upto_region 19 with fail
  rename_i K19 hK19
  have hb0 : BagA X Y2 X.heap.size (bagL (.slice Va l.length ka) (.slice Vb l.length kb) qs rs 0) [] [] [] := HB2.out
  refine wp_loop_ghost (fun m' a' X' => ∃ i, m' = 40 - i ∧ i ≤ 40 ∧ i ≤ N ∧ FrN 183 [] [(15, .slice Vp N kp), (17, .slice Vq N kq), (21, .pointer (some ⟨X.heap.size, 0, none⟩)), (22, .int .i64 (i : Int))] a' ∧ BagA X X' X.heap.size (bagL (.slice Va l.length ka) (.slice Vb l.length kb) qs rs i) [] [] []) 40 ⟨0, by omega, by omega, by omega, ⟨rfl, rfl, rfl, rfl, rfl, rfl, trivial⟩, hb0⟩ ?_
  rintro m' a2 X2 ⟨i, rfl, hi, hi2, hfr, hB⟩
  refine wt_19 _ w X Va Vb Vf Vp Vq Vr ka kb kf kp kq kr X.heap.size N l R qs rs ds a2 X2 i HN.out.1 hi hi2 hN5 HT HN.out.2.1 (Lib.hid hB) (Lib.hid fun a3 Y3 h40 hlt hfr3 hB3 => ?_) (Lib.hid fun a3 Y3 hfr3 hB3 => ?_) hfr
  · exact ⟨40 - (i + 1), by omega, i + 1, rfl, by omega, by omega, hfr3, hB3⟩
  have HT3 := HT.out.below hB3.below
  have HL := bag_own HT3 HN.out.2.2 HN.out.2.1 (j := i) (by rw [HN.out.1]; exact hi2) hi
  have HBg := Lib.hid hB3
  have AP : Hid (Calls Tryz.prog 19 #[.pointer (some ⟨X.heap.size, 0, none⟩)] Y3 fun e w' => e = .returned (.bool true) ∧ Below w.heap.size w w') :=
    (bag_apartA HBg (Lib.hid HL) (Lib.hid (Own.nil _ _ _)) (Lib.hid (Own.nil _ _ _)) (Lib.hid (Own.nil _ _ _))).mono fun e w' ⟨he, hk⟩ => ⟨he, by
      have hX := hbw.out
      have hk2 : Kp (ownL (bagL (.slice Va l.length ka) (.slice Vb l.length kb) qs rs i) ++ (ownL [] ++ (ownL [] ++ ownL []))) Y3 w' := hk
      have hw : Below w.heap.size w Y3 := hX.trans (hB3.below.mono hX.size)
      refine hw.trans (hk2.below hw.size (fun b hb => ?_))
      simp only [ownL, List.flatMap_nil, List.append_nil] at hb
      exact bag_lo HT3 (j := i) (by rw [HN.out.1]; exact hi2) b hb⟩
  clear hB hB3 HT3 HL hi hi2
  refine hK19 _ _ ?_
  obtain ⟨U, rfl, e15, e17, e21, -⟩ := hfr3.openWT
  unfold FrWT
  simp only [e15, e17, e21]
  clear e15 e17 e21 hfr3 hfr hK19 K19 hb0
  show (Code.seq _ _).wp _ _ _ _
  go_wp2_with fail
  refine AP.out.mono ?_
  rintro e Y5 ⟨rfl, hb5⟩
  have HB5 := Lib.hid hb5
  clear hb5
  simp only []
  go_wp2_with fail
  refine (lives11 _).mono ?_
  rintro e w10 ⟨rfl, hb10⟩
  have HB10 := Lib.hid (HB5.out.trans (hb10.mono HB5.out.size))
  clear hb10
  simp only []
  repeat (first
    | exact hret.out _ _ ⟨rfl, rfl, rfl, trivial⟩ HB10.out
    | go_values | go_skip | go_guarded | go_step | go_upon | go_back)
end
/-- THE WALK. -/
theorem walk_tells (A : Option Addr) (n cap : Nat) (L : List (ByteArray × Int)) (VA VB : Option Addr) (ca cb : Nat) (cells : List Int) (free : Int) (W : List (Pt × Pt)) (p1 p2 : Int) (w : World) (hn : n = L.length) (hcap : L.length ≤ cap) (HA : AgRd w A L) (HC : IntsRd w VA cells) (HW : WrRd w VB W)
    (hl : L.length ≤ 6000000000000) (hcA : cells.length ≤ 1000000000000000000) (hwA : W.length ≤ 1000000000000000000) :
    Calls Tryz.prog 3 #[.slice A n cap, netV VA ca cells free VB cb W, .agg #[.int .i64 p1, .int .i64 p2]] w fun e w' => e = .returned (.bool true) ∧ Below w.heap.size w w' := by
  go_enter Tryz.func3, Tryz.ntmps3
  refine (show ∀ a, FrN 183 [] [(0, .slice A n cap), (1, netV VA ca cells free VB cb W), (2, .agg #[.int .i64 p1, .int .i64 p2])] a → (wtT 0).wp Tryz.prog _ a w from ?_) _ ⟨rfl, rfl, rfl, rfl, rfl, trivial⟩
  intro a ha
  have hfin : Hid (∀ (a' : Act) (X : World), FrN 183 [] [(6, .bool true)] a' → Below w.heap.size w X → bodyPost Tryz.prog Tryz.f3 (fun e w' => e = .returned (.bool true) ∧ Below w.heap.size w w') .ret a' X) := by
    rintro a' X ⟨hsz, hdf, h4, _⟩ hb
    have g4 : a'.tmps[6]'(by rw [hsz]; omega) = .bool true := (Array.getElem?_eq_some_iff.1 h4).2
    exact bodyPost_ret (v := .bool true) (by simp only [results, Tryz.results3]; go_simp) hdf ⟨rfl, hb⟩
  have HR : Hid (Rd w A VA VB L cells W) := ⟨HA, HC, HW⟩
  refine wt_0 _ A n cap L VA VB ca cb cells free W (p1, p2) w a hn HR hl hcA hwA hfin (Lib.hid fun hcw a5 X5 b8 gA g1 g2 hf5 hs5 => ?_) ha
  have hlm : L.length ≤ maxLen := by unfold maxLen; omega
  obtain ⟨k, l, hll, hp1, hp2⟩ := wt_from L cells free W hlm (by omega) (by omega) (p1, p2)
  obtain ⟨j, R, hRl, hq1, hq2⟩ := wt_parts L cells free W hlm (by omega) (by omega)
  refine wt_5 _ A n cap L VA VB ca cb cells free W (p1, p2) w a5 X5 b8 gA g1 g2 k j l R hn hcap HR (Lib.hid hp1) (Lib.hid hp2) (Lib.hid hq1) (Lib.hid hq2) (Lib.hid fun a11 Y11 Va Vb Vf Vp Vq Vr ka kb kf kp kq kr qs rs ds hf11 hs11 ht11 => ?_) (Lib.hid hs5) hf5
  refine wt_11 _ A n cap w a11 Y11 b8 gA k j l R Va Vb Vf Vp Vq Vr ka kb kf kp kq kr qs rs ds hll hRl (Lib.hid fun a13 Y13 hf13 hb13 => ?_) (Lib.hid ht11) hf11
  refine wt_13 _ A n cap L VA VB ca cb cells free W (p1, p2) w a13 Y13 b8 gA g1 g2 l R Va Vb Vp Vq ka kb kp kq hn HR hl hcw (Lib.hid fun a15 Y15 hf15 hb15 => ?_) (Lib.hid (hs11.below hb13)) hf13
  have hs15 := (hs11.below hb13).below hb15
  exact wt_15 _ A n cap w a15 Y15 b8 gA l R Va Vb Vf Vp Vq Vr ka kb kf kp kq kr qs rs ds hll hRl hfin (Lib.hid hs15.bel) (Lib.hid ((ht11.below hb13).below hb15)) hf15
end Go.Proofs.YtkonfogebepccaaGreatDoor
