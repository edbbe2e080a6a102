/-
  The statement CodeTells: what the program and the document answer, of any net, port, cells; how much it goes through.
-/
import Derived.Test.YtkonfogebepccaaDoorCodeLeast
import Derived.Test.YtkonfogebepccaaDoorBag
import Derived.Test.YtkonfogebepccaaDoorWideA
import Derived.Test.YtkonfogebepccaaDoorCodeBad
import Derived.Test.YtkonfogebepccaaDoorRLeast
import Derived.Test.YtkonfogebepccaaDoorCodeLives
/-
  code.Least where the net may not be; where a cell is none.
-/
namespace Go.Proofs.YtkonfogebepccaaDoor
open Go.RowKit
attribute [local go_sem] cell_set
set_option maxRecDepth 100000
set_option linter.unusedVariables false

section
variable (A : Option Addr) (n cap : Nat) (L : List (ByteArray × Int)) (VA VB VI : Option Addr) (ca cb m ci : Nat) (cells : List Int) (free : Int) (W : List (Pt × Pt)) (ids : List Int) (w : World)
set_option maxHeartbeats 2000000 in
theorem code_least_bad (hn : n = L.length) (hcap : L.length ≤ cap) (HL : Hid (AgRd w A L)) (hl : L.length ≤ maxLen) (HC : Hid (IntsRd w VA cells)) (HW : Hid (WrRd w VB W)) (hc : cells.length ≤ 10000) (hw : W.length ≤ 40000) (k : Int)
    (hk : (netChk (pnL L) L.length (chk L) cells free W).1 = k) (hk0 : k ≠ 0) :
    Calls Tryd.prog 45 #[.slice A n cap, netV VA ca cells free VB cb W, .slice VI m ci] w fun e w' => e = .returned (.tuple #[.int .i64 0, .slice none 0 0, .int .i64 k]) ∧ Below w.heap.size w w' := by
  have f0 : (k != 0) = true := by simpa using hk0
  clear hk0
  subst hn
  have HK := Lib.hid hk
  clear hk
  go_enter Tryd.func45, Tryd.ntmps45
  go_upto_region 1 with fail
  refine absW (fun X => Below w.heap.size w X ∧ NBox X w.heap.size VA cells.length ca free VB W.length cb) ⟨by (repeat (first | exact Below.refl _ _ | (with_reducible refine Below.drew ?_) | (with_reducible refine Below.alloc ?_ (by (try simp); (try omega)) _) | (with_reducible refine Below.setCell ?_ (by (try simp); (try omega)) _) | (with_reducible refine Below.trans ?_ (Below.mono (by assumption) (by (try simp); (try omega)))))), ⟨by simp, by go_simp, by go_simp, by go_simp⟩⟩ ?_
  rintro X ⟨hbx, hnb⟩
  have n0 := hnb.c0
  have n1 := hnb.c1
  have n2 := hnb.c2
  have hzy := hnb.lt
  have HX := Lib.hid (And.intro hbx hnb)
  clear hbx hnb
  go_wp2_with (go_at_call 23
               refine (net_check A _ cap L VA VB ca cb cells free W _ rfl hcap (Lib.hid (HL.out.below HX.out.1)) hl (Lib.hid (HC.out.below HX.out.1)) (Lib.hid (HW.out.below HX.out.1)) hc hw).mono ?_
               rintro e w1 ⟨rfl, hb1⟩
               rw [HK.out]
               have hnb := HX.out.2.below hb1
               have n0 := hnb.c0
               have n1 := hnb.c1
               have n2 := hnb.c2
               have hz1 := hnb.lt
               have HB1 := Lib.hid (HX.out.1.trans (hb1.mono HX.out.1.size))
               have HN1 := Lib.hid hnb
               clear hb1 hnb)
  exact bodyPost_ret (v := .tuple #[.int .i64 0, .slice none 0 0, .int .i64 k]) (by simp only [results, Tryd.results45]; go_simp) rfl ⟨rfl, HB1.out⟩
set_option maxHeartbeats 4000000 in
theorem code_least_rng (i0 : Nat) (hn : n = L.length) (hcap : L.length ≤ cap) (HL : Hid (AgRd w A L)) (hl : L.length ≤ maxLen) (HC : Hid (IntsRd w VA cells)) (HW : Hid (WrRd w VB W)) (hc : cells.length ≤ 10000) (hw : W.length ≤ 40000)
    (hk : (netChk (pnL L) L.length (chk L) cells free W).1 = 0) (HI : Hid (IntsRd w VI ids)) (hm : m = ids.length) (hm2 : m ≤ 100000) (hi0 : i0 < ids.length) (hr : Hid (∀ i, i < i0 → 0 ≤ ids.getD i 0 ∧ ids.getD i 0 < cells.length)) (hb0 : ids.getD i0 0 < 0 ∨ (cells.length : Int) ≤ ids.getD i0 0) :
    Calls Tryd.prog 45 #[.slice A n cap, netV VA ca cells free VB cb W, .slice VI m ci] w fun e w' => e = .returned (.tuple #[.int .i64 0, .slice none 0 0, .int .i64 1]) ∧ Below w.heap.size w w' := by
  subst hm
  have HB0 := Lib.hid hb0
  clear hb0
  subst hn
  have HK := Lib.hid hk
  clear hk
  go_enter Tryd.func45, Tryd.ntmps45
  go_upto_region 1 with fail
  refine absW (fun X => Below w.heap.size w X ∧ NBox X w.heap.size VA cells.length ca free VB W.length cb) ⟨by (repeat (first | exact Below.refl _ _ | (with_reducible refine Below.drew ?_) | (with_reducible refine Below.alloc ?_ (by (try simp); (try omega)) _) | (with_reducible refine Below.setCell ?_ (by (try simp); (try omega)) _) | (with_reducible refine Below.trans ?_ (Below.mono (by assumption) (by (try simp); (try omega)))))), ⟨by simp, by go_simp, by go_simp, by go_simp⟩⟩ ?_
  rintro X ⟨hbx, hnb⟩
  have n0 := hnb.c0
  have n1 := hnb.c1
  have n2 := hnb.c2
  have hzy := hnb.lt
  have HX := Lib.hid (And.intro hbx hnb)
  clear hbx hnb
  have hne : ¬ ((ids.length : Int) = 0) := by omega
  go_upto_region 6 with (go_at_call 23
                         refine (net_check A _ cap L VA VB ca cb cells free W _ rfl hcap (Lib.hid (HL.out.below HX.out.1)) hl (Lib.hid (HC.out.below HX.out.1)) (Lib.hid (HW.out.below HX.out.1)) hc hw).mono ?_
                         rintro e w1 ⟨rfl, hb1⟩
                         rw [HK.out]
                         have hnb := HX.out.2.below hb1
                         have n0 := hnb.c0
                         have n1 := hnb.c1
                         have n2 := hnb.c2
                         have hz1 := hnb.lt
                         have HB1 := Lib.hid (HX.out.1.trans (hb1.mono HX.out.1.size))
                         have HN1 := Lib.hid hnb
                         clear hb1 hnb)
  have he0 : ((ids.length : Int) == 0) = false := by rw [beq_eq_false_iff_ne]; omega
  simp only [he0]
  clear hne he0
  go_wp2_with fail
  go_loopw [12, 33] (fun _ i wr => ∃ k : Nat, i = .int .i64 k ∧ k ≤ i0 ∧ Hid (Below w1.heap.size w1 wr)) (fun _ i _ => ids.length - (intOf i).toNat)
  case atStart => exact ⟨0, rfl, by omega, Below.refl _ _⟩
  case round =>
    obtain ⟨k, rfl, hkl, HBr⟩ := hrel
    have hnb := HN1.out.below HBr.out
    have n0 := hnb.c0
    have n1 := hnb.c1
    have n2 := hnb.c2
    have hz2 := hnb.lt
    have HB2 := Lib.hid (HB1.out.trans (HBr.out.mono HB1.out.size))
    clear hnb
    have hlt : k < ids.length := by omega
    obtain ⟨b, off, rfl, hb, e0⟩ := HI.out k hlt
    have d0 := (HB2.out.cell (p := ⟨b, off + k, none⟩) hb).trans e0
    have hbl := Nat.lt_of_lt_of_le hb HB2.out.size
    by_cases hki : k < i0
    · obtain ⟨h1, h2⟩ := hr.out k hki
      generalize ids.getD k 0 = x at d0 h1 h2 e0
      clear e0
      go_wp2_with fail
      go_roundw
      case rel => exact ⟨k + 1, by go_num, by omega, HBr⟩
      case measure => simp [intOf]; omega
    · obtain rfl : k = i0 := by omega
      have hx := HB0.out
      generalize ids.getD k 0 = x at d0 hx e0
      clear e0
      rcases Int.lt_or_le x 0 with h0 | h0
      · go_wp2_with fail
        exact bodyPost_ret (v := .tuple #[.int .i64 0, .slice none 0 0, .int .i64 1]) (by simp only [results, Tryd.results45]; go_simp) rfl ⟨rfl, HB2.out⟩
      · have h3 : (cells.length : Int) ≤ x := by omega
        go_wp2_with fail
        exact bodyPost_ret (v := .tuple #[.int .i64 0, .slice none 0 0, .int .i64 1]) (by simp only [results, Tryd.results45]; go_simp) rfl ⟨rfl, HB2.out⟩
end
end Go.Proofs.YtkonfogebepccaaDoor
/-
  skeinref00.Bag, made at a world of which nothing is touched: one more list; are they apart?
-/
namespace Go.Proofs.YtkonfogebepccaaDoor
open Go.RowKit
attribute [local go_sem] cell_set
set_option maxRecDepth 100000
set_option linter.unusedVariables false

/-- A bag at block G in world X, made behind world b. -/
def BagA (b X : World) (G : Nat) (li lp lw lq : List Value) : Prop :=
  ∃ si sp sw sq, BagW X G si sp sw sq li lp lw lq ∧ b.heap.size ≤ G ∧ (∀ k, (k ∈ ownB si ∨ k ∈ ownB sp ∨ k ∈ ownB sw ∨ k ∈ ownB sq) → b.heap.size ≤ k) ∧ Below b.heap.size b X
theorem BagA.new (b : World) : BagA b (b.alloc (.cells #[.slice none 0 0, .slice none 0 0, .slice none 0 0, .slice none 0 0, .slice none 0 0, .slice none 0 0, .slice none 0 0, .slice none 0 0, .slice none 0 0, .slice none 0 0, .slice none 0 0, .slice none 0 0] 57)) b.heap.size [] [] [] [] :=
  ⟨_, _, _, _, BagW.new b, Nat.le_refl _, by simp [ownB], (Below.refl _ _).alloc (Nat.le_refl _) _⟩
theorem BagA.below {b X : World} {G : Nat} {li lp lw lq : List Value} (h : BagA b X G li lp lw lq) : Below b.heap.size b X := by obtain ⟨_, _, _, _, _, _, _, h⟩ := h; exact h
theorem BagA.later {b X X' : World} {G : Nat} {li lp lw lq : List Value} (h : BagA b X G li lp lw lq) (hb : Below X.heap.size X X') : BagA b X' G li lp lw lq := by
  obtain ⟨si, sp, sw, sq, h1, h2, h3, h4⟩ := h
  exact ⟨si, sp, sw, sq, h1.below hb, h2, h3, h4.trans (hb.mono h4.size)⟩
theorem BagA.drew {b X : World} {G : Nat} {li lp lw lq : List Value} (h : BagA b X G li lp lw lq) : BagA b X.drew G li lp lw lq := h.later ((Below.refl _ _).drew)
theorem bag_ints {b w : World} {G : Nat} {li lp lw lq : List Value} (A : Option Addr) (n cp : Nat) (HB : Hid (BagA b w G li lp lw lq)) (hl : li.length < 300) :
    Calls Tryd.prog 50 #[.pointer (some ⟨G, 0, none⟩), .slice A n cp] w fun e w' => e = .returned (.tuple #[]) ∧ BagA b w' G (li ++ [.slice A n cp]) lp lw lq ∧ ∀ (k : Nat) (cur : Array Value) (t : TypeId), w.heap[k]? = some (Obj.cells cur t (0, 0)) → t ≠ 57 → t ≠ 61 → w'.heap[k]? = some (Obj.cells cur t (0, 0)) := by
  obtain ⟨si, sp, sw, sq, h1, h2, h3, h4⟩ := HB.out
  refine (add_i A n cp (Lib.hid h1) hl).mono ?_
  rintro e w' ⟨rfl, s', r1, r2, r3⟩
  refine ⟨rfl, ⟨s', sp, sw, sq, r1, h2, fun k hk => ?_, ?_⟩, fun k cur t hk ht1 ht2 => (r2.block k (heap_lt hk) (fun hm => ?_)).trans hk⟩
  · rcases hk with hk | hk | hk | hk
    · rcases r3 k hk with hh | hh
      · exact h3 k (.inl hh)
      · have := h4.size; omega
    · exact h3 k (.inr (.inl hk))
    · exact h3 k (.inr (.inr (.inl hk)))
    · exact h3 k (.inr (.inr (.inr hk)))
  · refine h4.trans (r2.below h4.size (fun k hk => ?_))
    rcases List.mem_cons.1 hk with rfl | hk
    · exact h2
    · exact h3 k (.inl hk)
  · rcases List.mem_cons.1 hm with rfl | hm
    · exact ty_no hk h1.blk ht1
    · obtain ⟨c9, h9⟩ := row_block h1.ri k hm
      exact ty_no hk h9 ht2
/-- Lists of a kind: slices, their lengths. -/
def vec (l : List Value) : Nat → Value := fun i => l.getD i (.slice none 0 0)
def lenV : Value → Nat
  | .slice _ n _ => n
  | _ => 0
theorem range_vec (l : List Value) : (List.range l.length).map (vec l) = l := by
  refine List.ext_getElem (by simp) fun i h1 h2 => ?_
  simp [vec, h2]
/-- Lists of a kind that are apart: each a row of its own. -/
structure Own (w : World) (e : TypeId) (size : Nat) (l : List Value) : Prop where
  row : ∀ u ∈ l, ∃ xs, Row w e size u (lenV u) xs
  dj : l.Pairwise fun u u' => ∀ b ∈ ownB u, b ∉ ownB u'
  le : ∀ u ∈ l, lenV u ≤ 1000000
  n : l.length ≤ 300
theorem Own.nil (w : World) (e : TypeId) (size : Nat) : Own w e size [] := ⟨by simp, List.Pairwise.nil, by simp, by simp⟩
theorem Own.cons {w : World} {e : TypeId} {size : Nat} {l : List Value} {A : Option Addr} {n cp : Nat} {xs : List Value} (h : Own w e size l) (hr : Row w e size (.slice A n cp) n xs) (hd : ∀ u ∈ l, ∀ b ∈ ownB (.slice A n cp), b ∉ ownB u) (hn : n ≤ 1000000) (hl : l.length + 1 ≤ 300) : Own w e size (.slice A n cp :: l) := by
  refine ⟨fun u hu => ?_, List.Pairwise.cons hd h.dj, fun u hu => ?_, by simpa using hl⟩
  · rcases List.mem_cons.1 hu with rfl | hu
    · exact ⟨xs, hr⟩
    · exact h.row u hu
  · rcases List.mem_cons.1 hu with rfl | hu
    · exact hn
    · exact h.le u hu
theorem Own.ls {w : World} {e : TypeId} {size : Nat} {l : List Value} (h : Own w e size l) : LsOk w e size l.length (vec l) (fun i => lenV (vec l i)) := by
  have hm : ∀ i, i < l.length → vec l i ∈ l := fun i hi => by simp [vec, List.getD_eq_getElem?_getD, hi]
  have ha : ∀ i (hi : i < l.length), vec l i = l[i] := fun i hi => by simp [vec, List.getD_eq_getElem?_getD, hi]
  refine ⟨fun i hi => h.row _ (hm i hi), fun i j hi hj hij b hb hb' => ?_, fun i hi => h.le _ (hm i hi), h.n⟩
  rw [ha i hi] at hb
  rw [ha j hj] at hb'
  have hp := List.pairwise_iff_getElem.1 h.dj
  rcases Nat.lt_or_gt_of_ne hij with h1 | h1
  · exact hp i j hi hj h1 b hb hb'
  · exact hp j i hj hi h1 b hb' hb
def ownL (l : List Value) : List Nat := l.flatMap ownB
theorem blks_vec {l : List Value} {b : Nat} (h : b ∈ blks l.length (vec l)) : b ∈ ownL l := by
  obtain ⟨i, hi, hb⟩ := blks_mem.1 h
  refine List.mem_flatMap.2 ⟨vec l i, by simp [vec, List.getD_eq_getElem?_getD, hi], hb⟩
theorem bag_apartA {b w : World} {G : Nat} {li lp lw lq : List Value} (HB : Hid (BagA b w G li lp lw lq)) (Hi : Hid (Own w 3 1 li)) (Hp : Hid (Own w 83 2 lp)) (Hw : Hid (Own w 108 4 lw)) (Hq : Hid (Own w 35 2 lq)) :
    Calls Tryd.prog 18 #[.pointer (some ⟨G, 0, none⟩)] w fun e w' => e = .returned (.bool true) ∧ Kp (ownL li ++ (ownL lp ++ (ownL lw ++ ownL lq))) w w' := by
  obtain ⟨si, sp, sw, sq, h1, h2, h3, h4⟩ := HB.out
  refine (bag_apart li.length (vec li) (fun i => lenV (vec li i)) lp.length (vec lp) (fun i => lenV (vec lp i)) lw.length (vec lw) (fun i => lenV (vec lw i)) lq.length (vec lq) (fun i => lenV (vec lq i)) (Lib.hid (by rw [range_vec, range_vec, range_vec, range_vec]; exact h1)) (Lib.hid Hi.out.ls) (Lib.hid Hp.out.ls) (Lib.hid Hw.out.ls) (Lib.hid Hq.out.ls)).mono ?_
  rintro e w' ⟨rfl, hk⟩
  refine ⟨rfl, hk.mono (fun k hk => ?_)⟩
  simp only [List.mem_append] at hk ⊢
  rcases hk with hk | hk | hk | hk
  · exact .inl (blks_vec hk)
  · exact .inr (.inl (blks_vec hk))
  · exact .inr (.inr (.inl (blks_vec hk)))
  · exact .inr (.inr (.inr (blks_vec hk)))
end Go.Proofs.YtkonfogebepccaaDoor
/-
  skeinlaw12.heavy: some answer.
-/
namespace Go.Proofs.YtkonfogebepccaaDoor
open Go.RowKit
attribute [local go_sem] cell_set
set_option maxRecDepth 100000
set_option linter.unusedVariables false

end Go.Proofs.YtkonfogebepccaaDoor
namespace Go.Proofs.YtkonfogebepccaaDoor
open Go.RowKit Go.Shelf
attribute [local go_sem] cell_set
set_option maxRecDepth 100000
set_option linter.unusedVariables false

def AnsF (w : World) (k : Int) (code : List Int) : Ending → World → Prop := fun e w' => ∃ V c, e = .returned (.tuple #[.slice V code.length c, .int .i64 k]) ∧ Fresh w w' 3 1 code.length (.slice V code.length c) (ivals code)
def AnsL (w : World) (k best : Int) (code : List Int) : Ending → World → Prop := fun e w' => ∃ V c, e = .returned (.tuple #[.int .i64 best, .slice V code.length c, .int .i64 k]) ∧ Fresh w w' 3 1 code.length (.slice V code.length c) (ivals code)
theorem AnsF.none {w w' : World} {k : Int} {e : Ending} (h : e = .returned (.tuple #[.slice none 0 0, .int .i64 k]) ∧ Below w.heap.size w w') : AnsF w k [] e w' := ⟨Option.none, 0, h.1, (Fresh.nil w _ _).later h.2⟩
theorem AnsL.none {w w' : World} {k : Int} {e : Ending} (h : e = .returned (.tuple #[.int .i64 0, .slice none 0 0, .int .i64 k]) ∧ Below w.heap.size w w') : AnsL w k 0 [] e w' := ⟨Option.none, 0, h.1, (Fresh.nil w _ _).later h.2⟩
theorem first_of (P : Nat → Prop) (h : ∃ i, P i) : ∃ i, P i ∧ ∀ j, j < i → ¬ P j := by
  obtain ⟨n, hn⟩ := h
  induction n using Nat.strongRecOn with
  | _ n ih =>
    by_cases h2 : ∃ j, j < n ∧ P j
    · obtain ⟨j, hj, hp⟩ := h2
      exact ih j hj hp
    · exact ⟨n, hn, fun j hj hp => h2 ⟨j, hj, hp⟩⟩
/-- What is read of a signature and a net. -/
structure Rd (w : World) (A VA VB : Option Addr) (L : List (ByteArray × Int)) (cells : List Int) (W : List (Pt × Pt)) : Prop where
  a : AgRd w A L
  c : IntsRd w VA cells
  w : WrRd w VB W
theorem Rd.below {w w' : World} {A VA VB : Option Addr} {L : List (ByteArray × Int)} {cells : List Int} {W : List (Pt × Pt)} (h : Rd w A VA VB L cells W) (hb : Below w.heap.size w w') : Rd w' A VA VB L cells W := ⟨h.a.below hb, h.c.below hb, h.w.below hb⟩
section
variable (L : List (ByteArray × Int)) (cells : List Int) (free : Int) (W : List (Pt × Pt)) (hl : L.length ≤ maxLen) (hc : cells.length ≤ 10000) (hw : W.length ≤ 40000)
include hl hc hw
theorem from_any (p : Pt) : ∃ (k : Int) (code : List Int), code.length ≤ 100000 ∧
    (∀ A cap VA VB ca cb w, L.length ≤ cap → Rd w A VA VB L cells W → Calls Tryd.prog 43 #[.slice A L.length cap, netV VA ca cells free VB cb W, .agg #[.int .i64 p.1, .int .i64 p.2]] w (AnsF w k code)) ∧
    (∀ A cap VA VB ca cb w, L.length ≤ cap → Rd w A VA VB L cells W → Calls Tryd.prog 44 #[.slice A L.length cap, netV VA ca cells free VB cb W, .agg #[.int .i64 p.1, .int .i64 p.2]] w (AnsF w k code)) := by
  by_cases hk : (netChk (pnL L) L.length (chk L) cells free W).1 = 0
  · obtain ⟨hz, hc4, hf0, hf64, hag, hok⟩ := netChk_ok hk
    obtain ⟨f, rfl⟩ := Int.eq_ofNat_of_zero_le hf0
    cases hp : isPt (pnL L) cells f p with
    | true =>
      refine ⟨0, codeN (pnL L) cells (lkM W) p, ?_, fun A cap VA VB ca cb w hcap h => ?_, fun A cap VA VB ca cb w hcap h => ?_⟩
      · have := codeN_len (pn := pnL L) (cs := cells) (Lk := lkM W) (p := p) (pnL_le (chk_sig hz)) (lkM_lt hok) (isPt_lt (startP_is hok hp))
        omega
      · exact code_from A _ cap L VA VB ca cb cells f W w p rfl hcap (Lib.hid h.a) hl (Lib.hid h.c) (Lib.hid h.w) hc hw hk hp
      · exact rfrom12_ok A _ cap L VA VB ca cb cells W p.1 p.2 w f rfl hcap (Lib.hid h.a) hl (Lib.hid h.c) (Lib.hid h.w) hc hw hk hp
    | false =>
      refine ⟨30, [], by simp, fun A cap VA VB ca cb w hcap h => ?_, fun A cap VA VB ca cb w hcap h => ?_⟩
      · exact (code_from_port A _ cap L VA VB ca cb cells W w f p rfl hcap (Lib.hid h.a) hl (Lib.hid h.c) (Lib.hid h.w) hc hw hk hp).mono fun e w' h => AnsF.none h
      · exact (rfrom12_err A _ cap VA VB ca cb cells f W p.1 p.2 w 30 (by omega) (Lib.hid fun Z hb => rfrom_port A _ cap L VA VB ca cb cells W p.1 p.2 Z f rfl hcap (Lib.hid (h.a.below hb)) hl (Lib.hid (h.c.below hb)) (Lib.hid (h.w.below hb)) hc hw hk hp)).mono fun e w' h => AnsF.none h
  · refine ⟨(netChk (pnL L) L.length (chk L) cells free W).1, [], by simp, fun A cap VA VB ca cb w hcap h => ?_, fun A cap VA VB ca cb w hcap h => ?_⟩
    · exact (code_from_bad A _ cap L VA VB ca cb cells free W w p rfl hcap (Lib.hid h.a) hl (Lib.hid h.c) (Lib.hid h.w) hc hw _ rfl hk).mono fun e w' h => AnsF.none h
    · exact (rfrom12_err A _ cap VA VB ca cb cells free W p.1 p.2 w _ hk (Lib.hid fun Z hb => rfrom_bad A _ cap L VA VB ca cb cells free W p.1 p.2 Z rfl hcap (Lib.hid (h.a.below hb)) hl (Lib.hid (h.c.below hb)) (Lib.hid (h.w.below hb)) hc hw _ rfl hk)).mono fun e w' h => AnsF.none h
theorem least_any (ids : List Int) (hm : ids.length ≤ 100000) : ∃ (k best : Int) (code : List Int), code.length ≤ 100000 ∧
    (∀ A cap VA VB VI ca cb ci w, L.length ≤ cap → Rd w A VA VB L cells W → IntsRd w VI ids → Calls Tryd.prog 45 #[.slice A L.length cap, netV VA ca cells free VB cb W, .slice VI ids.length ci] w (AnsL w k best code)) ∧
    (∀ A cap VA VB VI ca cb ci w, L.length ≤ cap → Rd w A VA VB L cells W → IntsRd w VI ids → Calls Tryd.prog 46 #[.slice A L.length cap, netV VA ca cells free VB cb W, .slice VI ids.length ci] w (AnsL w k best code)) := by
  by_cases hk : (netChk (pnL L) L.length (chk L) cells free W).1 = 0
  · obtain ⟨hz, hc4, hf0, hf64, hag, hok⟩ := netChk_ok hk
    obtain ⟨f, rfl⟩ := Int.eq_ofNat_of_zero_le hf0
    have hsg := chk_sig hz
    by_cases hbad : ∃ i, i < ids.length ∧ (ids.getD i 0 < 0 ∨ (cells.length : Int) ≤ ids.getD i 0)
    · obtain ⟨i0, hi, hmin⟩ : ∃ i0, (i0 < ids.length ∧ (ids.getD i0 0 < 0 ∨ (cells.length : Int) ≤ ids.getD i0 0)) ∧ ∀ j, j < i0 → ¬ (j < ids.length ∧ (ids.getD j 0 < 0 ∨ (cells.length : Int) ≤ ids.getD j 0)) := by
        exact first_of _ hbad
      have hr : Hid (∀ i, i < i0 → 0 ≤ ids.getD i 0 ∧ ids.getD i 0 < cells.length) := fun i h => by
        have := hmin i h
        have h2 : i < ids.length := by omega
        constructor
        · rcases Int.lt_or_le (ids.getD i 0) 0 with h3 | h3
          · exact absurd ⟨h2, .inl h3⟩ this
          · exact h3
        · rcases Int.lt_or_le (ids.getD i 0) cells.length with h3 | h3
          · exact h3
          · exact absurd ⟨h2, .inr h3⟩ this
      refine ⟨1, 0, [], by simp, fun A cap VA VB VI ca cb ci w hcap h hi2 => ?_, fun A cap VA VB VI ca cb ci w hcap h hi2 => ?_⟩
      · exact (code_least_rng A _ cap L VA VB VI ca cb _ ci cells f W ids w i0 rfl hcap (Lib.hid h.a) hl (Lib.hid h.c) (Lib.hid h.w) hc hw hk (Lib.hid hi2) rfl hm hi.1 hr hi.2).mono fun e w' h => AnsL.none h
      · exact (rleast_rng A _ cap L VA VB VI ca cb ci _ cells f W ids w i0 rfl hcap (Lib.hid h.a) hl (Lib.hid h.c) (Lib.hid h.w) hc hw hk (Lib.hid hi2) rfl hm hi.1 hr hi.2).mono fun e w' h => AnsL.none h
    · have hr : Hid (∀ i, i < ids.length → 0 ≤ ids.getD i 0 ∧ ids.getD i 0 < cells.length) := fun i h => by
        constructor
        · rcases Int.lt_or_le (ids.getD i 0) 0 with h3 | h3
          · exact absurd ⟨i, h, .inl h3⟩ hbad
          · exact h3
        · rcases Int.lt_or_le (ids.getD i 0) cells.length with h3 | h3
          · exact h3
          · exact absurd ⟨i, h, .inr h3⟩ hbad
      by_cases h0 : ids.length = 0
      · refine ⟨1, 0, [], by simp, fun A cap VA VB VI ca cb ci w hcap h hi2 => ?_, fun A cap VA VB VI ca cb ci w hcap h hi2 => ?_⟩
        · rw [h0]; exact (code_least_nil A _ cap L VA VB VI ca cb ci cells f W w rfl hcap (Lib.hid h.a) hl (Lib.hid h.c) (Lib.hid h.w) hc hw hk).mono fun e w' h => AnsL.none h
        · rw [h0]; exact (rleast_nil A _ cap L VA VB VI ca cb ci cells f W w rfl hcap (Lib.hid h.a) hl (Lib.hid h.c) (Lib.hid h.w) hc hw hk).mono fun e w' h => AnsL.none h
      · refine ⟨0, (leastN (fun c => codeN (pnL L) cells (lkM W) (c, 0)) ids).1, (leastN (fun c => codeN (pnL L) cells (lkM W) (c, 0)) ids).2, ?_, fun A cap VA VB VI ca cb ci w hcap h hi2 => ?_, fun A cap VA VB VI ca cb ci w hcap h hi2 => ?_⟩
        · refine leastN_len fun c hcm => ?_
          obtain ⟨i, hi, rfl⟩ := List.getElem_of_mem hcm
          obtain ⟨h1, h2⟩ := hr.out i hi
          have e : ids.getD i 0 = ids[i] := by simp [hi]
          rw [e] at h1 h2
          have hs : (startP (lkM W) (ids[i], 0)).1 < cells.length := by
            unfold startP
            rw [if_neg (by show ¬ ids[i] < 0; omega)]
            exact h2
          have := codeN_len (pn := pnL L) (cs := cells) (Lk := lkM W) (p := (ids[i], 0)) (pnL_le hsg) (lkM_lt hok) hs
          omega
        · exact code_least A _ cap L VA VB VI ca cb _ ci cells f W ids w rfl hcap (Lib.hid h.a) hl (Lib.hid h.c) (Lib.hid h.w) hc hw hk (Lib.hid hi2) rfl (by omega) hm hr
        · exact rleast_ok A _ cap L VA VB VI ca cb ci _ cells W ids w f rfl hcap (Lib.hid h.a) hl (Lib.hid h.c) (Lib.hid h.w) hc hw hk (Lib.hid hi2) rfl (by omega) hm hr
  · refine ⟨(netChk (pnL L) L.length (chk L) cells free W).1, 0, [], by simp, fun A cap VA VB VI ca cb ci w hcap h hi2 => ?_, fun A cap VA VB VI ca cb ci w hcap h hi2 => ?_⟩
    · exact (code_least_bad A _ cap L VA VB VI ca cb _ ci cells free W w rfl hcap (Lib.hid h.a) hl (Lib.hid h.c) (Lib.hid h.w) hc hw _ rfl hk).mono fun e w' h => AnsL.none h
    · exact (rleast_bad A _ cap L VA VB VI ca cb ci _ cells free W w rfl hcap (Lib.hid h.a) hl (Lib.hid h.c) (Lib.hid h.w) hc hw _ rfl hk).mono fun e w' h => AnsL.none h
end
theorem size_net_is (VA VB : Option Addr) (n1 n2 ca cb : Nat) (free : Int) (w : World) (h1 : n1 ≤ 1000000000000000000) (h2 : n2 ≤ 1000000000000000000) : Calls Tryd.prog 83 #[.agg #[.slice VA n1 ca, .int .i64 free, .slice VB n2 cb]] w fun e w' => e = .returned (.int .i64 ((n1 : Int) + n2)) ∧ Below w.heap.size w w' := by
  have hs : IntKind.i64.wrap ((n1 : Int) + n2) = (n1 : Int) + n2 := IntWalk.i64_in _ (by omega)
  go_enter Tryd.func83, Tryd.ntmps83
  go_wp2
  go_ret
  exact ⟨rfl, by (repeat (first | exact Below.refl _ _ | (with_reducible refine Below.drew ?_) | (with_reducible refine Below.alloc ?_ (by (try simp); (try omega)) _) | (with_reducible refine Below.setCell ?_ (by (try simp); (try omega)) _) | (with_reducible refine Below.trans ?_ (Below.mono (by assumption) (by (try simp); (try omega))))))⟩
set_option maxHeartbeats 1000000 in
theorem heavy_lt (A : Option Addr) (n cap : Nat) (L : List (ByteArray × Int)) (VA VB : Option Addr) (n1 n2 ca cb : Nat) (free : Int) (w : World) (hn : n = L.length) (hl : L.length ≤ maxLen) (HL : Hid (AgRd w A L)) (h1 : n1 ≤ 1000000000000000000) (h2 : n2 ≤ 1000000000000000000) :
    Calls Tryd.prog 39 #[.slice A n cap, .agg #[.slice VA n1 ca, .int .i64 free, .slice VB n2 cb]] w fun e w' => ∃ r : Bool, e = .returned (.bool r) ∧ (r = false → n1 + n2 ≤ 512) ∧ Below w.heap.size w w' := by
  subst hn
  have hbA : ∀ o : Obj, Below w.heap.size w (w.alloc o) := fun o => (Below.refl _ _).alloc (Nat.le_refl _) o
  have HSz : Hid (∀ Z, Below w.heap.size w Z → Calls Tryd.prog 66 #[.slice A L.length cap] Z (SomeI Z)) := fun Z hz => size_agents A _ cap L Z rfl hl (Lib.hid (HL.out.below hz))
  have HSn : Hid (∀ Z, Calls Tryd.prog 83 #[.agg #[.slice VA n1 ca, .int .i64 free, .slice VB n2 cb]] Z fun e w' => e = .returned (.int .i64 ((n1 : Int) + n2)) ∧ Below Z.heap.size Z w') := fun Z => size_net_is VA VB n1 n2 ca cb free Z h1 h2
  clear hl h1 h2
  obtain ⟨s, hs⟩ : ∃ s : Int, (n1 : Int) + n2 = s := ⟨_, rfl⟩
  rw [hs] at HSn
  have HS := Lib.hid hs
  clear hs
  go_enter Tryd.func39, Tryd.ntmps39
  go_wp2_with fail
  refine (HSz.out _ (hbA _)).mono ?_
  rintro e w1 ⟨m, rfl, rfl⟩
  by_cases c2 : m > 65536
  · go_wp2
    go_ret
    exact ⟨true, rfl, fun h => (by cases h), hbA _⟩
  · by_cases c3 : s > 512
    · go_wp2_with (go_at_call 83; refine (HSn.out _).mono ?_; rintro e w2 ⟨rfl, hb2⟩)
      go_ret
      exact ⟨true, rfl, fun h => (by cases h), (hbA _).trans (hb2.mono (by simp))⟩
    · go_wp2_with (go_at_call 83; refine (HSn.out _).mono ?_; rintro e w2 ⟨rfl, hb2⟩)
      go_ret
      exact ⟨_, rfl, fun _ => (by have := HS.out; omega), (hbA _).trans (hb2.mono (by simp))⟩
end Go.Proofs.YtkonfogebepccaaDoor
