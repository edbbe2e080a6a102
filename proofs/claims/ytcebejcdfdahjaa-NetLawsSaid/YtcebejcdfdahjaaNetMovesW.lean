/-
  The walk of NetMoves.
-/
import Derived.Test.YtcebejcdfdahjaaNetMoveW
import Derived.Test.YtcebejcdfdahjaaRef03V
import Derived.Test.YtcebejcdfdahjaaNetWorks
import Derived.Deep.DeepCutAuto
import Derived.Deep.RegionHeld3
namespace Go.Proofs.Ytcebejcdfdahjaa
open Go.RowKit
attribute [local go_sem] cell_set
set_option maxRecDepth 100000
set_option linter.unusedVariables false

section
variable (L : List (ByteArray × Int)) (cells : List Int) (free : Int) (W : List (Pt × Pt)) (cs fs : List Int)
def chkN : Int := (netChk (pnL L) L.length (chk L) cells free W).1
def mvE : Int := if chkN L cells free W ≠ 0 then chkN L cells free W else if eachN cs cells.length ∧ eachN fs free.toNat then 0 else 1
def mvC : List Int := if mvE L cells free W cs fs = 0 then outK cells cs cells.length else []
def mvF : Int := if mvE L cells free W cs fs = 0 then free else 0
def mvW : List (Pt × Pt) := if mvE L cells free W cs fs = 0 then tidyW (allPs (pnL L) (outK cells cs cells.length) free.toNat) (moveW cs fs W) else []
end
theorem cell_heap {w : World} {b : Nat} {cs : Array Value} {ty : TypeId} {fr : Nat × Nat} (h : w.heap[b]? = some (.cells cs ty fr)) (j : Nat) : w.cell? ⟨b, j, none⟩ = cs[j]? := by simp [World.cell?, h]
theorem IntsRd.nil (w : World) (A : Option Addr) : IntsRd w A [] := fun i hi => by simp at hi
theorem WrRd.nil (w : World) (A : Option Addr) : WrRd w A [] := fun i hi => by simp at hi
section
variable (A : Option Addr) (n cap : Nat) (L : List (ByteArray × Int)) (VA VB : Option Addr) (ca cb : Nat) (cells : List Int) (free : Int) (W : List (Pt × Pt)) (VC : Option Addr) (nc cc : Nat) (cs : List Int) (VF : Option Addr) (nf cf : Nat) (fs : List Int) (w : World)
theorem net_move_any (hn : n = L.length) (hcap : L.length ≤ cap) (HL : AgRd w A L) (hl : L.length ≤ maxLen) (HC : IntsRd w VA cells) (HW : WrRd w VB W) (hc : cells.length ≤ 10000) (hw : W.length ≤ 40000) (hnc : nc = cs.length) (hnf : nf = fs.length)
    (HCs : IntsRd w VC cs) (HFs : IntsRd w VF fs) (hcs : cs.length ≤ 100000) (hfs : fs.length ≤ 100000) :
    Calls Try.prog 13 #[.slice A n cap, netV VA ca cells free VB cb W, .slice VC nc cc, .slice VF nf cf] w fun e w' => ∃ V1 c1 V2 c2, e = .returned (.tuple #[netV V1 c1 (mvC L cells free W cs fs) (mvF L cells free W cs fs) V2 c2 (mvW L cells free W cs fs), .int .i64 (mvE L cells free W cs fs)]) ∧
      Row w' 3 1 (.slice V1 (mvC L cells free W cs fs).length c1) (mvC L cells free W cs fs).length (ivals (mvC L cells free W cs fs)) ∧ Row w' 90 4 (.slice V2 (mvW L cells free W cs fs).length c2) (mvW L cells free W cs fs).length (wrvals (mvW L cells free W cs fs)) ∧ Below w.heap.size w w' := by
  by_cases hk : chkN L cells free W = 0
  · by_cases he : eachN cs cells.length ∧ eachN fs free.toNat
    · have e0 : mvE L cells free W cs fs = 0 := by unfold mvE; rw [if_neg (by simpa using hk), if_pos he]
      refine (net_move_ok A n cap L VA VB ca cb cells free W VC nc cc cs VF nf cf fs w hn hcap (Lib.hid HL) hl (Lib.hid HC) (Lib.hid HW) hc hw hnc hnf (Lib.hid HCs) (Lib.hid HFs) hcs hfs hk he.1 he.2).mono ?_
      rintro e w' ⟨V1, c1, V2, c2, rfl, hnf⟩
      unfold mvC mvF mvW
      rw [e0]
      simp only [if_true]
      exact ⟨V1, c1, V2, c2, rfl, hnf.1.1, hnf.2.1, hnf.1.2.2⟩
    · have e0 : mvE L cells free W cs fs = 1 := by unfold mvE; rw [if_neg (by simpa using hk), if_neg he]
      refine (net_move_arg A n cap L VA VB ca cb cells free W VC nc cc cs VF nf cf fs w hn hcap (Lib.hid HL) hl (Lib.hid HC) (Lib.hid HW) hc hw hnc hnf (Lib.hid HCs) (Lib.hid HFs) hcs hfs hk he).mono ?_
      rintro e w' ⟨rfl, hb⟩
      unfold mvC mvF mvW
      rw [e0]
      exact ⟨none, 0, none, 0, rfl, Row.nil _ _ _, Row.nil _ _ _, hb⟩
  · have e0 : mvE L cells free W cs fs = chkN L cells free W := by unfold mvE; rw [if_pos (by simpa using hk)]
    refine (net_move_bad A n cap L VA VB ca cb cells free W VC nc cc cs VF nf cf fs w hn hcap (Lib.hid HL) hl (Lib.hid HC) (Lib.hid HW) hc hw hnc hnf hk).mono ?_
    rintro e w' ⟨rfl, hb⟩
    unfold mvC mvF mvW
    rw [e0, if_neg hk, if_neg hk, if_neg hk]
    exact ⟨none, 0, none, 0, rfl, Row.nil _ _ _, Row.nil _ _ _, hb⟩
/-- The boxes of the statement: the net, the numbers. -/
def SB (b : Nat) (x y z u v : Value) (X : World) : Prop := X.cell? ⟨b, 0, none⟩ = some x ∧ X.cell? ⟨b, 1, none⟩ = some y ∧ X.cell? ⟨b, 2, none⟩ = some z ∧ X.cell? ⟨b + 1, 0, none⟩ = some u ∧ X.cell? ⟨b + 1, 1, none⟩ = some v
theorem SB.below {b : Nat} {x y z u v : Value} {X X' : World} (h : SB b x y z u v X) (hb : Below X.heap.size X X') (hl : b + 1 < X.heap.size) : SB b x y z u v X' :=
  ⟨(hb.cell (p := ⟨b, 0, none⟩) (by show b < _; omega)).trans h.1, (hb.cell (p := ⟨b, 1, none⟩) (by show b < _; omega)).trans h.2.1, (hb.cell (p := ⟨b, 2, none⟩) (by show b < _; omega)).trans h.2.2.1, (hb.cell (p := ⟨b + 1, 0, none⟩) hl).trans h.2.2.2.1, (hb.cell (p := ⟨b + 1, 1, none⟩) hl).trans h.2.2.2.2⟩
theorem SB.set3 {b : Nat} {x y z u v : Value} {X : World} (h : SB b x y z u v X) {c : Nat} (hc : b + 1 < c) (a1 a2 a3 : Value) : SB b x y z u v (((X.setCell ⟨c, 0, none⟩ a1).setCell ⟨c, 1, none⟩ a2).setCell ⟨c, 2, none⟩ a3) := by
  have e : ∀ d, d ≠ c → (((X.setCell ⟨c, 0, none⟩ a1).setCell ⟨c, 1, none⟩ a2).setCell ⟨c, 2, none⟩ a3).heap[d]? = X.heap[d]? := fun d hd =>
    (Below.heap_setCell _ _ _ d hd).trans ((Below.heap_setCell _ _ _ d hd).trans (Below.heap_setCell _ _ _ d hd))
  exact ⟨(World.cell?_of_block (e b (by omega))).trans h.1, (World.cell?_of_block (e b (by omega))).trans h.2.1, (World.cell?_of_block (e b (by omega))).trans h.2.2.1, (World.cell?_of_block (e (b + 1) (by omega))).trans h.2.2.2.1, (World.cell?_of_block (e (b + 1) (by omega))).trans h.2.2.2.2⟩
def NB (b : Nat) (X : World) : Prop := X.heap[b]? = some (.cells #[.slice none 0 0, .int .i64 0, .slice none 0 0] 26 (0, 0))
theorem NB.below {b : Nat} {X X' : World} (h : NB b X) (hb : Below X.heap.size X X') : NB b X' := (hb.block _ (heap_lt h)).trans h
theorem NB.new (X : World) : NB X.heap.size (X.alloc (.cells #[.slice none 0 0, .int .i64 0, .slice none 0 0] 26)) := heap_alloc_new _ _
theorem NB.all6 {b : Nat} {X : World} (h : NB b X) : X.cell? ⟨b, 0, none⟩ = some (.slice none 0 0) ∧ X.cell? ⟨b, 1, none⟩ = some (.int .i64 0) ∧ X.cell? ⟨b, 2, none⟩ = some (.slice none 0 0) ∧ X.frozen? ⟨b, 0, none⟩ = false ∧ X.frozen? ⟨b, 1, none⟩ = false ∧ X.frozen? ⟨b, 2, none⟩ = false := by
  have h' : X.heap[b]? = _ := h
  simp [World.cell?, World.frozen?, h']
/-- Behind the statement's first row: what came, in a box. -/
def OutS (w : World) (b : Nat) (C : List Int) (F : Int) (Wo : List (Pt × Pt)) (E : Int) (x7 x8 : Value) (X : World) : Prop :=
  ∃ b7 V1 c1 V2 c2, x7 = .pointer (some ⟨b7, 0, none⟩) ∧ x8 = .int .i64 E ∧ b + 2 ≤ b7 ∧ X.heap[b7]? = some (.cells #[.slice V1 C.length c1, .int .i64 F, .slice V2 Wo.length c2] 26 (0, 0)) ∧ Row X 3 1 (.slice V1 C.length c1) C.length (ivals C) ∧ Row X 90 4 (.slice V2 Wo.length c2) Wo.length (wrvals Wo) ∧ Below w.heap.size w X
theorem Row.ty' {w : World} {e : TypeId} {size n : Nat} {v : Value} {xs : List Value} (h : Row w e size v n xs) {b : Nat} (hb : b ∈ ownB v) : ∃ cur, w.heap[b]? = some (.cells cur e (0, 0)) := by
  rcases h.2 with ⟨e, _⟩ | ⟨g, cap, cur, e, hh, _⟩
  · rw [e] at hb; simp [ownB] at hb
  · rw [e] at hb; simp [ownB] at hb; subst hb; exact ⟨cur, hh⟩
theorem NB.apart {b : Nat} {X : World} (h : NB b X) {e : TypeId} {size n : Nat} {v : Value} {xs : List Value} (hr : Row X e size v n xs) (he : e ≠ 26) : ∀ c ∈ ownB v, c ≠ b := fun c hc e' => by
  subst e'
  obtain ⟨cur, hh⟩ := hr.ty' hc
  have h' : X.heap[c]? = _ := h
  rw [h'] at hh
  simp at hh
  exact he hh.2.symm
theorem OutS.of_set {w X : World} {C : List Int} {F : Int} {Wo : List (Pt × Pt)} {E : Int} {b7 : Nat} {V1 V2 : Option Addr} {c1 c2 : Nat} (hN : NB b7 X) (hR : Row X 3 1 (.slice V1 C.length c1) C.length (ivals C)) (hW : Row X 90 4 (.slice V2 Wo.length c2) Wo.length (wrvals Wo)) (hb : Below w.heap.size w X) (h7 : w.heap.size + 2 ≤ b7) :
    OutS w w.heap.size C F Wo E (.pointer (some ⟨b7, 0, none⟩)) (.int .i64 E) (((X.setCell ⟨b7, 0, none⟩ (.slice V1 C.length c1)).setCell ⟨b7, 1, none⟩ (.int .i64 F)).setCell ⟨b7, 2, none⟩ (.slice V2 Wo.length c2)) := by
  have e : ∀ c, c ≠ b7 → (((X.setCell ⟨b7, 0, none⟩ (.slice V1 C.length c1)).setCell ⟨b7, 1, none⟩ (.int .i64 F)).setCell ⟨b7, 2, none⟩ (.slice V2 Wo.length c2)).heap[c]? = X.heap[c]? := fun c hc =>
    (Below.heap_setCell _ _ _ c hc).trans ((Below.heap_setCell _ _ _ c hc).trans (Below.heap_setCell _ _ _ c hc))
  have h' : X.heap[b7]? = _ := hN
  refine ⟨b7, V1, c1, V2, c2, rfl, rfl, h7, ?_, hR.keep fun c hc => e c (hN.apart hR (by decide) c hc), hW.keep fun c hc => e c (hN.apart hW (by decide) c hc), ((hb.setCell (p := ⟨b7, 0, none⟩) (by show _ ≤ b7; omega) _).setCell (p := ⟨b7, 1, none⟩) (by show _ ≤ b7; omega) _).setCell (p := ⟨b7, 2, none⟩) (by show _ ≤ b7; omega) _⟩
  simp [World.setCell, Array.getElem?_modify, h']
theorem OutS.of_new {w X : World} {C : List Int} {F : Int} {Wo : List (Pt × Pt)} {E : Int} {V1 V2 : Option Addr} {c1 c2 : Nat} (hR : Row X 3 1 (.slice V1 C.length c1) C.length (ivals C)) (hW : Row X 90 4 (.slice V2 Wo.length c2) Wo.length (wrvals Wo)) (hb : Below w.heap.size w X) (h7 : w.heap.size + 2 ≤ X.heap.size) :
    OutS w w.heap.size C F Wo E (.pointer (some ⟨X.heap.size, 0, none⟩)) (.int .i64 E) (X.alloc (.cells #[.slice V1 C.length c1, .int .i64 F, .slice V2 Wo.length c2] 26)) :=
  ⟨_, V1, c1, V2, c2, rfl, rfl, h7, heap_alloc_new _ _, hR.alloc _, hW.alloc _, hb.alloc hb.size _⟩
theorem bz1 {w X : World} (h : Hid (Below w.heap.size w X)) (o : Obj) : Below w.heap.size w (X.alloc o) := h.out.alloc h.out.size _
theorem below_a {X X' : World} {o : Obj} (h : Below (X.alloc o).heap.size (X.alloc o) X') : Below X.heap.size X X' := ((Below.refl _ X).alloc (Nat.le_refl _) o).trans (h.mono (by simp))

theorem below_d {X X' : World} (h : Below X.drew.heap.size X.drew X') : Below X.heap.size X X' := (Below.refl _ X).drew.trans h
theorem below_da {X X' : World} {o : Obj} (h : Below (X.alloc o).drew.heap.size (X.alloc o).drew X') : Below X.heap.size X X' := below_a (below_d h)
set_option maxHeartbeats 4000000 in
theorem moves_walk (hn : n = L.length) (hcap : L.length ≤ cap) (HL : Hid (AgRd w A L)) (hl : L.length ≤ maxLen) (HC : Hid (IntsRd w VA cells)) (HW : Hid (WrRd w VB W)) (hc : cells.length ≤ maxLen) (hw : W.length ≤ maxLen) (hnc : nc = cs.length) (hnf : nf = fs.length)
    (HCs : Hid (IntsRd w VC cs)) (HFs : Hid (IntsRd w VF fs)) (hcs : cs.length ≤ maxLen) (hfs : fs.length ≤ maxLen) :
    Calls Try.prog 3 #[.slice A n cap, netV VA ca cells free VB cb W, .agg #[.slice VC nc cc, .slice VF nf cf]] w fun e w' => e = .returned (.bool true) ∧ Below w.heap.size w w' := by
  subst hn hnc hnf
  have hbA : Below w.heap.size w ((w.alloc (.cells #[.slice VA cells.length ca, .int .i64 free, .slice VB W.length cb] 26)).alloc (.cells #[.slice VC cs.length cc, .slice VF fs.length cf] 28)) := by (repeat (first | exact Below.refl _ _ | (with_reducible refine Below.drew ?_) | (with_reducible refine Below.alloc ?_ (by (try simp); (try omega)) _) | (with_reducible refine Below.setCell ?_ (by (try simp); (try omega)) _) | (with_reducible refine Below.trans ?_ (Below.mono (by assumption) (by (try simp); (try omega))))))
  have HM : Hid (∀ Z, Below w.heap.size w Z → Calls Try.prog 11 #[.slice A L.length cap, .agg #[.slice VA cells.length ca, .int .i64 free, .slice VB W.length cb]] Z (SomeB (fun r => r = false → L.length ≤ 1024 ∧ cells.length ≤ 8192 ∧ W.length ≤ 32768) Z)) := fun Z hz =>
    much_is A _ cap L VA VB cells.length W.length ca cb free Z rfl hl (Lib.hid (HL.out.below hz)) hc hw
  unfold maxLen at hcs hfs hc hw
  go_enter Try.func3, Try.ntmps3
  go_wp2_with fail
  refine (HM.out _ hbA).mono ?_
  rintro e w1 ⟨r, rfl, hr, hb1⟩
  have HS1 : Hid (SB w.heap.size (.slice VA cells.length ca) (.int .i64 free) (.slice VB W.length cb) (.slice VC cs.length cc) (.slice VF fs.length cf) w1) := SB.below ⟨by go_simp, by go_simp, by go_simp, by go_simp, by go_simp⟩ hb1 (by simp)
  have HB1 : Hid (Below w.heap.size w w1) := hbA.trans (hb1.mono (by simp <;> omega))
  have hz1 : w.heap.size + 1 < w1.heap.size := by have := hb1.size; simp at this; omega
  have hc0 := HS1.out.2.2.2.1
  have hc1 := HS1.out.2.2.2.2
  clear HM hb1 hbA
  cases r with
  | true =>
    go_wp2_with (go_at_call 12; refine (works03 _).mono ?_; rintro e w2 ⟨rfl, hb2⟩)
    go_ret
    exact ⟨rfl, HB1.out.trans (hb2.mono HB1.out.size)⟩
  | false =>
    obtain ⟨m1, m2, m3⟩ := hr rfl
    by_cases hx : 8192 < cs.length
    · go_wp2_with (go_at_call 12; refine (works03 _).mono ?_; rintro e w2 ⟨rfl, hb2⟩)
      go_ret
      exact ⟨rfl, HB1.out.trans (hb2.mono HB1.out.size)⟩
    · by_cases hy : 1024 < fs.length
      · go_wp2_with (go_at_call 12; refine (works03 _).mono ?_; rintro e w2 ⟨rfl, hb2⟩)
        go_ret
        exact ⟨rfl, HB1.out.trans (hb2.mono HB1.out.size)⟩
      · go_upto_region 3 with fail
        clear hc0 hc1 hr hl
        have HMv : Hid (∀ (A2 : Option Addr) (cap2 : Nat) (VA2 VB2 : Option Addr) (ca2 cb2 : Nat) (VC2 : Option Addr) (cc2 : Nat) (VF2 : Option Addr) (cf2 : Nat) (Z : World), L.length ≤ cap2 → AgRd Z A2 L → IntsRd Z VA2 cells → WrRd Z VB2 W → IntsRd Z VC2 cs → IntsRd Z VF2 fs →
            Calls Try.prog 13 #[.slice A2 L.length cap2, netV VA2 ca2 cells free VB2 cb2 W, .slice VC2 cs.length cc2, .slice VF2 fs.length cf2] Z fun e w' => ∃ V1 c1 V2 c2, e = .returned (.tuple #[netV V1 c1 (mvC L cells free W cs fs) (mvF L cells free W cs fs) V2 c2 (mvW L cells free W cs fs), .int .i64 (mvE L cells free W cs fs)]) ∧
              Row w' 3 1 (.slice V1 (mvC L cells free W cs fs).length c1) (mvC L cells free W cs fs).length (ivals (mvC L cells free W cs fs)) ∧ Row w' 90 4 (.slice V2 (mvW L cells free W cs fs).length c2) (mvW L cells free W cs fs).length (wrvals (mvW L cells free W cs fs)) ∧ Below Z.heap.size Z w') :=
          fun A2 cap2 VA2 VB2 ca2 cb2 VC2 cc2 VF2 cf2 Z h1 h2 h3 h4 h5 h6 => net_move_any A2 _ cap2 L VA2 VB2 ca2 cb2 cells free W VC2 _ cc2 cs VF2 _ cf2 fs Z rfl h1 h2 (by simp only [maxLen]; omega) h3 h4 (by omega) (by omega) rfl rfl h5 h6 (by omega) (by omega)
        have HCi : Hid (∀ (V : Option Addr) (k c : Nat) (l : List Int) (Z : World), IntsRd w V l → k = l.length → l.length ≤ 100000 → Below w.heap.size w Z → Calls Try.prog 16 #[.slice V k c] Z fun e w' => ∃ V' c', e = .returned (.slice V' k c') ∧ IntsRd w' V' l ∧ Below Z.heap.size Z w') := fun V k c l Z h1 h2 h3 h4 => by
          subst h2
          exact (copy_ints V c l Z (h1.below h4) h3).mono fun e w' ⟨V', c', he, hf⟩ => ⟨V', c', he, hf.1.ints, hf.2.2⟩
        generalize hCe : mvC L cells free W cs fs = C at HMv
        generalize hFe : mvF L cells free W cs fs = F at HMv
        generalize hWe : mvW L cells free W cs fs = Wo at HMv
        generalize hEe : mvE L cells free W cs fs = E at HMv
        have HEq := Lib.hid (And.intro hCe (And.intro hFe (And.intro hWe hEe)))
        clear hCe hFe hWe hEe
        go_cut [7, 8] (fun x7 x8 wx => OutS w w.heap.size C F Wo E x7 x8 wx ∧ SB w.heap.size (.slice VA cells.length ca) (.int .i64 free) (.slice VB W.length cb) (.slice VC cs.length cc) (.slice VF fs.length cf) wx)
        case first =>
          have HBz : Hid (Below w.heap.size w w1) := HB1
          have SZ : SB w.heap.size (.slice VA cells.length ca) (.int .i64 free) (.slice VB W.length cb) (.slice VC cs.length cc) (.slice VF fs.length cf) w1 := HS1.out
          have hzz : w.heap.size + 1 < w1.heap.size := hz1
          go_region_held3 (fun X => X.cell? ⟨w.heap.size, 0, none⟩ = some (.slice VA cells.length ca) ∧ X.cell? ⟨w.heap.size, 1, none⟩ = some (.int .i64 free) ∧ X.cell? ⟨w.heap.size, 2, none⟩ = some (.slice VB W.length cb) ∧ X.cell? ⟨w.heap.size + 1, 0, none⟩ = some (.slice VC cs.length cc) ∧ X.cell? ⟨w.heap.size + 1, 1, none⟩ = some (.slice VF fs.length cf))
            (first | exact SZ | exact SZ.below ((Below.refl _ _).alloc (Nat.le_refl _) _) hzz | exact SZ.below (((Below.refl _ _).alloc (Nat.le_refl _) _).drew) hzz | exact SZ.set3 (by omega) _ _ _)
            (first
              | (go_at_call 14; go_loud (refine (copy_agents A cap L _ (HL.out.below (by first | exact HBz.out.drew | exact (bz1 HBz _).drew)) (by omega)).mono ?_)
                 rintro e v2 ⟨A2, cap2, rfl, hf2⟩
                 have hst : Below w1.heap.size w1 v2 := (by first | exact hf2.2.2 | exact below_a hf2.2.2 | exact below_d hf2.2.2 | exact below_da hf2.2.2)
                 have SZ := SZ.below hst hzz
                 have hzz := Nat.lt_of_lt_of_le hzz hst.size
                 have HBz := Lib.hid (HBz.out.trans (hst.mono HBz.out.size))
                 first
                   | (have HN := Lib.hid (HN.out.below hst))
                   | (have HN : Hid (NB w1.heap.size v2) := (NB.new w1).below hf2.2.2)
                   | (have HN : Hid (NB w1.heap.size v2) := NB.below (X := (w1.alloc (.cells #[.slice none 0 0, .int .i64 0, .slice none 0 0] 26)).drew) (NB.new w1) hf2.2.2)
                   | skip
                 have HA2 : Hid (AgRd v2 A2 L ∧ L.length ≤ cap2) := ⟨hf2.1.agents, by obtain ⟨_, _, h, hh⟩ := hf2.1.len; simp only [Value.slice.injEq, true_and] at h; omega⟩
                 clear hf2)
              | (go_at_call 15; refine (copy_net VA VB ca cb cells free W _ (by omega) (by omega) (Lib.hid (HC.out.below (by first | exact HBz.out | exact bz1 HBz _))) (Lib.hid (HW.out.below (by first | exact HBz.out | exact bz1 HBz _)))).mono ?_
                 rintro e v3 ⟨VA2, ca2, VB2, cb2, rfl, hI3, hW3, _, _, hb3⟩
                 have hst : Below v2.heap.size v2 v3 := (by first | exact hb3 | exact below_a hb3 | exact below_d hb3 | exact below_da hb3)
                 have SZ := SZ.below hst hzz
                 have hzz := Nat.lt_of_lt_of_le hzz hst.size
                 have HBz := Lib.hid (HBz.out.trans (hst.mono HBz.out.size))
                 first
                   | (have HN := Lib.hid (HN.out.below hst))
                   | (have HN : Hid (NB v2.heap.size v3) := (NB.new v2).below hb3)
                   | (have HN : Hid (NB v2.heap.size v3) := NB.below (X := (v2.alloc (.cells #[.slice none 0 0, .int .i64 0, .slice none 0 0] 26)).drew) (NB.new v2) hb3)
                   | skip
                 have HA2 : Hid (AgRd v3 A2 L ∧ L.length ≤ cap2) := ⟨HA2.out.1.below hst, HA2.out.2⟩
                 have HI3 : Hid (IntsRd v3 VA2 cells ∧ WrRd v3 VB2 W) := ⟨hI3, hW3⟩
                 clear hI3 hW3 hb3 hst)
              | (go_at_call 16
                 first
                   | (have _t := HI4
                      refine (HCi.out _ _ _ _ _ HFs.out rfl (by omega) (by first | exact HBz.out | exact bz1 HBz _)).mono ?_
                      rintro e v5 ⟨VF2, cf2, rfl, hI5, hb5⟩
                      have hst : Below v4.heap.size v4 v5 := (by first | exact hb5 | exact below_a hb5 | exact below_d hb5 | exact below_da hb5)
                      have SZ := SZ.below hst hzz
                      have hzz := Nat.lt_of_lt_of_le hzz hst.size
                      have HBz := Lib.hid (HBz.out.trans (hst.mono HBz.out.size))
                      first
                        | (have HN := Lib.hid (HN.out.below hst))
                        | (have HN : Hid (NB v4.heap.size v5) := (NB.new v4).below hb5)
                        | (have HN : Hid (NB v4.heap.size v5) := NB.below (X := (v4.alloc (.cells #[.slice none 0 0, .int .i64 0, .slice none 0 0] 26)).drew) (NB.new v4) hb5)
                        | skip
                      have HA2 : Hid (AgRd v5 A2 L ∧ L.length ≤ cap2) := ⟨HA2.out.1.below hst, HA2.out.2⟩
                      have HI3 : Hid (IntsRd v5 VA2 cells ∧ WrRd v5 VB2 W) := ⟨HI3.out.1.below hst, HI3.out.2.below hst⟩
                      have HI4 := Lib.hid (HI4.out.below hst)
                      have HI5 := Lib.hid hI5
                      clear hI5 hb5 hst)
                   | (refine (HCi.out _ _ _ _ _ HCs.out rfl (by omega) (by first | exact HBz.out | exact bz1 HBz _)).mono ?_
                      rintro e v4 ⟨VC2, cc2, rfl, hI4, hb4⟩
                      have hst : Below v3.heap.size v3 v4 := (by first | exact hb4 | exact below_a hb4 | exact below_d hb4 | exact below_da hb4)
                      have SZ := SZ.below hst hzz
                      have hzz := Nat.lt_of_lt_of_le hzz hst.size
                      have HBz := Lib.hid (HBz.out.trans (hst.mono HBz.out.size))
                      first
                        | (have HN := Lib.hid (HN.out.below hst))
                        | (have HN : Hid (NB v3.heap.size v4) := (NB.new v3).below hb4)
                        | (have HN : Hid (NB v3.heap.size v4) := NB.below (X := (v3.alloc (.cells #[.slice none 0 0, .int .i64 0, .slice none 0 0] 26)).drew) (NB.new v3) hb4)
                        | skip
                      have HA2 : Hid (AgRd v4 A2 L ∧ L.length ≤ cap2) := ⟨HA2.out.1.below hst, HA2.out.2⟩
                      have HI3 : Hid (IntsRd v4 VA2 cells ∧ WrRd v4 VB2 W) := ⟨HI3.out.1.below hst, HI3.out.2.below hst⟩
                      have HI4 := Lib.hid hI4
                      clear hI4 hb4 hst))
              | (go_at_call 13
                 first
                   | refine (HMv.out A2 cap2 VA2 VB2 ca2 cb2 VC2 cc2 VF2 cf2 _ HA2.out.2 HA2.out.1 HI3.out.1 HI3.out.2 HI4.out HI5.out).mono ?_
                   | refine (HMv.out A2 cap2 VA2 VB2 ca2 cb2 VC2 cc2 VF2 cf2 _ HA2.out.2 (HA2.out.1.below ((Below.refl _ _).alloc (Nat.le_refl _) _)) (HI3.out.1.below ((Below.refl _ _).alloc (Nat.le_refl _) _)) (HI3.out.2.below ((Below.refl _ _).alloc (Nat.le_refl _) _)) (HI4.out.below ((Below.refl _ _).alloc (Nat.le_refl _) _)) (HI5.out.below ((Below.refl _ _).alloc (Nat.le_refl _) _))).mono ?_
                 rintro e v6 ⟨V1, c1, V2, c2, rfl, hI6, hW6, hb6⟩
                 have hst : Below v5.heap.size v5 v6 := (by first | exact hb6 | exact below_a hb6 | exact below_d hb6 | exact below_da hb6)
                 have SZ := SZ.below hst hzz
                 have hzz := Nat.lt_of_lt_of_le hzz hst.size
                 have HBz := Lib.hid (HBz.out.trans (hst.mono HBz.out.size))
                 first
                   | (have HN := Lib.hid (HN.out.below hst))
                   | (have HN : Hid (NB v5.heap.size v6) := (NB.new v5).below hb6)
                   | (have HN : Hid (NB v5.heap.size v6) := NB.below (X := (v5.alloc (.cells #[.slice none 0 0, .int .i64 0, .slice none 0 0] 26)).drew) (NB.new v5) hb6)
                   | skip
                 have HI6 : Hid (Row v6 3 1 (.slice V1 C.length c1) C.length (ivals C) ∧ Row v6 90 4 (.slice V2 Wo.length c2) Wo.length (wrvals Wo)) := ⟨hI6, hW6⟩
                 first
                   | (obtain ⟨q0, q1, q2, q3, q4, q5⟩ := HN.out.all6)
                   | skip
                 clear hI6 hW6 hb6 hst))
          all_goals
            go_wp2_with fail
            go_meet
            case rel => first
              | exact ⟨OutS.of_set HN.out HI6.out.1 HI6.out.2 HBz.out (by omega), SZ.set3 (by omega) _ _ _⟩
              | exact ⟨OutS.of_new HI6.out.1 HI6.out.2 HBz.out (by omega), SZ.below ((Below.refl _ _).alloc (Nat.le_refl _) _) hzz⟩
        case rest =>
          obtain ⟨⟨b7, V1, c1, V2, c2, rfl, rfl, h7, hh7, hr7, hw7, hb7⟩, hsb⟩ := hcut
          have HB7 := Lib.hid hb7
          have HR7 := Lib.hid (And.intro hh7 (And.intro hr7 hw7))
          have HSB := Lib.hid hsb
          have hl7 := heap_lt hh7
          clear HMv HCi HB1 HS1 hz1 hb7 hr7 hw7 hh7 hsb
          have HCk : Hid (Calls Try.prog 17 #[.slice A L.length cap, netV VA ca cells free VB cb W] wc fun e w' => e = .returned (.tuple #[.int .i64 (netChk (pnL L) L.length (chk L) cells free W).1, .int .i64 (netChk (pnL L) L.length (chk L) cells free W).2]) ∧ Below wc.heap.size wc w') :=
            rcheck3 A _ cap L VA VB ca cb cells free W wc rfl hcap (Lib.hid (HL.out.below HB7.out)) (by simp only [maxLen]; omega) (Lib.hid (HC.out.below HB7.out)) (Lib.hid (HW.out.below HB7.out)) (by omega) (by omega)
          obtain ⟨n0, n1, n2, n3, n4⟩ := HSB.out
          clear n3 n4
          generalize hK2 : (netChk (pnL L) L.length (chk L) cells free W).2 = K2 at HCk
          clear hK2
          generalize hK : (netChk (pnL L) L.length (chk L) cells free W).1 = K at HCk
          have HKe : Hid (chkN L cells free W = K) := hK
          have HK := Lib.hid hK
          clear hK
          go_upto_region 5 with (go_at_call 17
                                 refine HCk.out.mono ?_
                                 rintro e w8 ⟨rfl, hb8⟩
                                 have HB8 : Hid (Below w.heap.size w w8) := HB7.out.trans (hb8.mono HB7.out.size)
                                 have HSB8 := Lib.hid (HSB.out.below hb8 (by omega))
                                 have HR8 : Hid (w8.heap[b7]? = some (.cells #[.slice V1 C.length c1, .int .i64 F, .slice V2 Wo.length c2] 26 (0, 0)) ∧ Row w8 3 1 (.slice V1 C.length c1) C.length (ivals C) ∧ Row w8 90 4 (.slice V2 Wo.length c2) Wo.length (wrvals Wo)) := ⟨(hb8.block _ hl7).trans HR7.out.1, HR7.out.2.1.keep fun c hc => hb8.block c (HR7.out.2.1.lt c hc), HR7.out.2.2.keep fun c hc => hb8.block c (HR7.out.2.2.lt c hc)⟩
                                 have hz8 := hb8.size
                                 clear hb8)
          clear n0 n1 n2 HR7 HSB
          have hl8 : b7 < w8.heap.size := by omega
          have hw8 : w.heap.size + 1 < w8.heap.size := by omega
          have HEaC : Hid (∀ Z, Below w8.heap.size w8 Z → Calls Try.prog 18 #[.slice VC cs.length cc, .int .i64 (cells.length : Int)] Z fun e w' => e = .returned (.bool (decide (eachN cs cells.length))) ∧ Below Z.heap.size Z w') := fun Z hz =>
            reach VC _ cc cs cells.length Z rfl (by omega) (by omega) (Lib.hid (HCs.out.below (HB8.out.trans (hz.mono HB8.out.size))))
          by_cases hk0 : K = 0
          · obtain ⟨kz, kc4, kf0, kf64, kag, kok⟩ := netChk_ok (HK.out.trans hk0)
            obtain ⟨f, rfl⟩ := Int.eq_ofNat_of_zero_le kf0
            rw [show ((f : Int)).toNat = f from rfl] at kok
            have HEaF : Hid (∀ Z, Below w8.heap.size w8 Z → Calls Try.prog 18 #[.slice VF fs.length cf, .int .i64 (f : Int)] Z fun e w' => e = .returned (.bool (decide (eachN fs f))) ∧ Below Z.heap.size Z w') := fun Z hz =>
              reach VF _ cf fs f Z rfl (by omega) (by omega) (Lib.hid (HFs.out.below (HB8.out.trans (hz.mono HB8.out.size))))
            subst hk0
            clear kz kag kf0
            have HOk := Lib.hid kok
            clear kok
            obtain ⟨n0, n1, n2, n3, n4⟩ := HSB8.out
            by_cases he1 : eachN cs cells.length
            · have HE1 : Hid (decide (eachN cs cells.length) = true) := decide_eq_true he1
              by_cases he2 : eachN fs f
              · have HE2 : Hid (decide (eachN fs f) = true) := decide_eq_true he2
                have hE : E = 0 := by rw [← HEq.out.2.2.2]; unfold mvE; rw [if_neg (by rw [HKe.out]; simp), if_pos ⟨he1, he2⟩]
                have hE0 : mvE L cells f W cs fs = 0 := by rw [HEq.out.2.2.2, hE]
                have hC : C = outK cells cs cells.length := by rw [← HEq.out.1]; unfold mvC; rw [if_pos hE0]
                have hF : F = (f : Int) := by rw [← HEq.out.2.1]; unfold mvF; rw [if_pos hE0]
                have hW : Wo = tidyW (allPs (pnL L) (outK cells cs cells.length) f) (moveW cs fs W) := by rw [← HEq.out.2.2.1]; unfold mvW; rw [if_pos hE0]; rfl
                have HEe := Lib.hid (And.intro he1 he2)
                have HTl : Hid ((tidyW (allPs (pnL L) (outK cells cs cells.length) f) (moveW cs fs W)).length ≤ 100000 ∧ (outK cells cs cells.length).length ≤ 100000) := by
                  have h1 : (tidyW (allPs (pnL L) (outK cells cs cells.length) f) (moveW cs fs W)).length ≤ (allPs (pnL L) (outK cells cs cells.length) f).length := List.length_filterMap_le _ _
                  have hs := chk_sig (netChk_ok HK.out).1
                  have h2 := firstN_le (pnL_le hs) (outK cells cs cells.length) f (outK cells cs cells.length).length
                  rw [allPs_len] at h1
                  rw [outK_len] at h1 h2
                  exact ⟨by omega, by rw [outK_len]; omega⟩
                have HSg := Lib.hid (chk_sig (netChk_ok HK.out).1)
                clear HEq HKe hE0 he1 he2
                subst hC hF hW hE
                go_wp2_with fail
                refine (HEaC.out _ (Below.refl _ _)).mono ?_
                rintro e w9 ⟨rfl, hb9⟩
                rw [HE1.out]
                have HB89 : Hid (Below w8.heap.size w8 w9) := hb9
                have HB9 : Hid (Below w.heap.size w w9) := HB8.out.trans (hb9.mono HB8.out.size)
                have HSB9 := Lib.hid (HSB8.out.below hb9 hw8)
                have HR9 : Hid (w9.heap[b7]? = some (.cells #[.slice V1 (outK cells cs cells.length).length c1, .int .i64 (f : Int), .slice V2 (tidyW (allPs (pnL L) (outK cells cs cells.length) f) (moveW cs fs W)).length c2] 26 (0, 0)) ∧ Row w9 3 1 (.slice V1 (outK cells cs cells.length).length c1) (outK cells cs cells.length).length (ivals (outK cells cs cells.length)) ∧ Row w9 90 4 (.slice V2 (tidyW (allPs (pnL L) (outK cells cs cells.length) f) (moveW cs fs W)).length c2) (tidyW (allPs (pnL L) (outK cells cs cells.length) f) (moveW cs fs W)).length (wrvals (tidyW (allPs (pnL L) (outK cells cs cells.length) f) (moveW cs fs W)))) := ⟨(hb9.block _ hl8).trans HR8.out.1, HR8.out.2.1.keep fun c hc => hb9.block c (HR8.out.2.1.lt c hc), HR8.out.2.2.keep fun c hc => hb9.block c (HR8.out.2.2.lt c hc)⟩
                clear hb9 n0 n1 n2 n3 n4
                obtain ⟨n0, n1, n2, n3, n4⟩ := HSB9.out
                go_wp2_with fail
                refine (HEaF.out _ HB89.out).mono ?_
                rintro e w9 ⟨rfl, hb9⟩
                rw [HE2.out]
                have hbb := HB89.out.trans (hb9.mono HB89.out.size)
                have HB9 : Hid (Below w.heap.size w w9) := HB8.out.trans (hbb.mono HB8.out.size)
                have HSB9 := Lib.hid (HSB8.out.below hbb hw8)
                have HR9 : Hid (w9.heap[b7]? = some (.cells #[.slice V1 (outK cells cs cells.length).length c1, .int .i64 (f : Int), .slice V2 (tidyW (allPs (pnL L) (outK cells cs cells.length) f) (moveW cs fs W)).length c2] 26 (0, 0)) ∧ Row w9 3 1 (.slice V1 (outK cells cs cells.length).length c1) (outK cells cs cells.length).length (ivals (outK cells cs cells.length)) ∧ Row w9 90 4 (.slice V2 (tidyW (allPs (pnL L) (outK cells cs cells.length) f) (moveW cs fs W)).length c2) (tidyW (allPs (pnL L) (outK cells cs cells.length) f) (moveW cs fs W)).length (wrvals (tidyW (allPs (pnL L) (outK cells cs cells.length) f) (moveW cs fs W)))) := ⟨(hbb.block _ hl8).trans HR8.out.1, HR8.out.2.1.keep fun c hc => hbb.block c (HR8.out.2.1.lt c hc), HR8.out.2.2.keep fun c hc => hbb.block c (HR8.out.2.2.lt c hc)⟩
                have HB89' : Hid (Below w8.heap.size w8 w9) := hbb
                clear hb9 hbb n0 n1 n2 n3 n4
                generalize hTT : tidyW (allPs (pnL L) (outK cells cs cells.length) f) (moveW cs fs W) = TT at HR9 HTl
                generalize hCC : outK cells cs cells.length = CC at HR9 HTl
                have HMd : Hid (∀ Z, Below w.heap.size w Z → Calls Try.prog 20 #[.slice A L.length cap, netV VA ca cells f VB cb W, .slice VC cs.length cc, .slice VF fs.length cf] Z fun e w' => ∃ V1 c1 V2 c2, e = .returned (netV V1 c1 CC f V2 c2 TT) ∧ NetFresh Z w' V1 c1 CC V2 c2 TT) := fun Z hz => by
                  have := rmoved A _ cap L VA VB ca cb cells f W VC _ cc cs VF _ cf fs Z rfl rfl rfl (Lib.hid (HL.out.below hz)) HSg.out (Lib.hid (HC.out.below hz)) (Lib.hid (HW.out.below hz)) (by omega) (by omega) (by omega) (Lib.hid (HCs.out.below hz)) (Lib.hid (HFs.out.below hz)) HOk (Lib.hid HEe.out.1) (Lib.hid HEe.out.2)
                  rw [hTT, hCC] at this
                  exact this
                clear hTT hCC
                obtain ⟨n0, n1, n2, n3, n4⟩ := HSB9.out
                have hr := HR9.out.1
                have m0 := cell_heap hr 0
                have m1 := cell_heap hr 1
                have m2 := cell_heap hr 2
                simp at m0 m1 m2
                have hz9 : b7 < w9.heap.size := heap_lt hr
                have hz9' : w.heap.size + 1 < w9.heap.size := by have := HB89'.out.size; omega
                clear hr
                go_upto_region 9 with fail
                have SZ : (w9.cell? ⟨b7, 0, none⟩ = some (.slice V1 CC.length c1) ∧ w9.cell? ⟨b7, 1, none⟩ = some (.int .i64 (f : Int)) ∧ w9.cell? ⟨b7, 2, none⟩ = some (.slice V2 TT.length c2)) ∧ SB w.heap.size (.slice VA cells.length ca) (.int .i64 (f : Int)) (.slice VB W.length cb) (.slice VC cs.length cc) (.slice VF fs.length cf) w9 := ⟨⟨m0, m1, m2⟩, HSB9.out⟩
                clear n0 n1 n2 n3 n4 m0 m1 m2
                go_region_held3 (fun X => (X.cell? ⟨b7, 0, none⟩ = some (.slice V1 CC.length c1) ∧ X.cell? ⟨b7, 1, none⟩ = some (.int .i64 (f : Int)) ∧ X.cell? ⟨b7, 2, none⟩ = some (.slice V2 TT.length c2)) ∧ X.cell? ⟨w.heap.size, 0, none⟩ = some (.slice VA cells.length ca) ∧ X.cell? ⟨w.heap.size, 1, none⟩ = some (.int .i64 (f : Int)) ∧ X.cell? ⟨w.heap.size, 2, none⟩ = some (.slice VB W.length cb) ∧ X.cell? ⟨w.heap.size + 1, 0, none⟩ = some (.slice VC cs.length cc) ∧ X.cell? ⟨w.heap.size + 1, 1, none⟩ = some (.slice VF fs.length cf))
                  (exact SZ)
                  (first
                    | (go_at_call 20; refine (HMd.out _ HB9.out.drew).mono ?_
                       rintro e v1 ⟨V3, c3, V4, c4, rfl, hnf⟩
                       have hst : Below w9.heap.size w9 v1 := below_d hnf.1.2.2
                       have HV1 : Hid (Below w9.heap.size w9 v1 ∧ (Row v1 3 1 (.slice V1 CC.length c1) CC.length (ivals CC) ∧ Row v1 90 4 (.slice V2 TT.length c2) TT.length (wrvals TT)) ∧ IntsRd v1 V3 CC ∧ WrRd v1 V4 TT) :=
                         ⟨hst, ⟨HR9.out.2.1.keep fun c hc => hst.block c (HR9.out.2.1.lt c hc), HR9.out.2.2.keep fun c hc => hst.block c (HR9.out.2.2.lt c hc)⟩, hnf.1.1.ints, hnf.2.1.wires⟩
                       have SZ := (show _ ∧ _ from ⟨keep3 hst hz9 SZ.1, SZ.2.below hst hz9'⟩)
                       clear hnf hst)
                    | (go_at_call 19; refine (eq_net V1 V2 V3 V4 c1 c2 c3 c4 CC CC f f TT TT _ HTl.out.2 HTl.out.2 HTl.out.1 HTl.out.1 (Lib.hid HV1.out.2.1.1.ints) (Lib.hid HV1.out.2.1.2.wires) (Lib.hid HV1.out.2.2.1) (Lib.hid HV1.out.2.2.2)).mono ?_
                       rintro e v2 ⟨rfl, hv2⟩
                       rw [show decide (CC = CC ∧ (f : Int) = (f : Int) ∧ TT = TT) = true by simp]
                       have HV2 : Hid (Below w9.heap.size w9 v2) := HV1.out.1.trans (hv2.mono HV1.out.1.size)
                       have SZ := (show _ ∧ _ from ⟨keep3 hv2 (by have := HV1.out.1.size; omega) SZ.1, SZ.2.below hv2 (by have := HV1.out.1.size; omega)⟩)
                       clear hv2)
                    | (go_at_call 12; refine (works03 _).mono ?_
                       rintro e v3 ⟨rfl, hv3⟩
                       have HV3 : Hid (Below w9.heap.size w9 v3) := HV2.out.trans (hv3.mono HV2.out.size)
                       have SZ := (show _ ∧ _ from ⟨keep3 hv3 (by have := HV2.out.size; omega) SZ.1, SZ.2.below hv3 (by have := HV2.out.size; omega)⟩)
                       clear hv3))
                all_goals
                  go_wp2
                  go_ret
                  exact ⟨rfl, HB9.out.trans (HV3.out.mono HB9.out.size)⟩
              · have HE2 : Hid (decide (eachN fs f) = false) := decide_eq_false he2
                have hE : E = 1 := by rw [← HEq.out.2.2.2]; unfold mvE; rw [if_neg (by rw [HKe.out]; simp), if_neg (fun h => he2 h.2)]
                have hE0 : ¬ mvE L cells f W cs fs = 0 := by rw [HEq.out.2.2.2, hE]; decide
                clear he1 he2
                go_wp2_with fail
                refine (HEaC.out _ (Below.refl _ _)).mono ?_
                rintro e w9 ⟨rfl, hb9⟩
                rw [HE1.out]
                have HB89 : Hid (Below w8.heap.size w8 w9) := hb9
                have HB9 : Hid (Below w.heap.size w w9) := HB8.out.trans (hb9.mono HB8.out.size)
                have HSB9 := Lib.hid (HSB8.out.below hb9 hw8)
                have HR9 : Hid (w9.heap[b7]? = some (.cells #[.slice V1 C.length c1, .int .i64 F, .slice V2 Wo.length c2] 26 (0, 0)) ∧ Row w9 3 1 (.slice V1 C.length c1) C.length (ivals C) ∧ Row w9 90 4 (.slice V2 Wo.length c2) Wo.length (wrvals Wo)) := ⟨(hb9.block _ hl8).trans HR8.out.1, HR8.out.2.1.keep fun c hc => hb9.block c (HR8.out.2.1.lt c hc), HR8.out.2.2.keep fun c hc => hb9.block c (HR8.out.2.2.lt c hc)⟩
                clear hb9 n0 n1 n2 n3 n4
                obtain ⟨n0, n1, n2, n3, n4⟩ := HSB9.out
                go_wp2_with fail
                refine (HEaF.out _ HB89.out).mono ?_
                rintro e w9 ⟨rfl, hb9⟩
                rw [HE2.out]
                have hbb := HB89.out.trans (hb9.mono HB89.out.size)
                have HB9 : Hid (Below w.heap.size w w9) := HB8.out.trans (hbb.mono HB8.out.size)
                have HSB9 := Lib.hid (HSB8.out.below hbb hw8)
                have HR9 : Hid (w9.heap[b7]? = some (.cells #[.slice V1 C.length c1, .int .i64 F, .slice V2 Wo.length c2] 26 (0, 0)) ∧ Row w9 3 1 (.slice V1 C.length c1) C.length (ivals C) ∧ Row w9 90 4 (.slice V2 Wo.length c2) Wo.length (wrvals Wo)) := ⟨(hbb.block _ hl8).trans HR8.out.1, HR8.out.2.1.keep fun c hc => hbb.block c (HR8.out.2.1.lt c hc), HR8.out.2.2.keep fun c hc => hbb.block c (HR8.out.2.2.lt c hc)⟩
                have HB89' : Hid (Below w8.heap.size w8 w9) := hbb
                clear hb9 hbb n0 n1 n2 n3 n4
                have hC : C = [] := by rw [← HEq.out.1]; unfold mvC; rw [if_neg hE0]
                have hF : F = 0 := by rw [← HEq.out.2.1]; unfold mvF; rw [if_neg hE0]
                have hW : Wo = [] := by rw [← HEq.out.2.2.1]; unfold mvW; rw [if_neg hE0]
                clear HEq HKe hE0
                subst hC hF hW hE
                have hr := HR9.out.1
                simp only [List.length_nil] at hr
                have m0 := cell_heap hr 0
                have m1 := cell_heap hr 1
                have m2 := cell_heap hr 2
                simp at m0 m1 m2
                have HEqN : Hid (∀ Z, Calls Try.prog 19 #[.agg #[.slice V1 0 c1, .int .i64 0, .slice V2 0 c2], .agg #[.slice none 0 0, .int .i64 0, .slice none 0 0]] Z fun e w' => e = .returned (.bool true) ∧ Below Z.heap.size Z w') := fun Z =>
                  eq_net V1 V2 none none c1 c2 0 0 [] [] 0 0 [] [] Z (by simp) (by simp) (by simp) (by simp) (Lib.hid (IntsRd.nil _ _)) (Lib.hid (WrRd.nil _ _)) (Lib.hid (IntsRd.nil _ _)) (Lib.hid (WrRd.nil _ _))
                clear hr
                go_wp2_with (first
                  | (go_at_call 19; refine (HEqN.out _).mono ?_; rintro e v1 ⟨rfl, hv1⟩)
                  | (go_at_call 12; refine (works03 _).mono ?_; rintro e v2 ⟨rfl, hv2⟩))
                go_ret
                exact ⟨rfl, HB9.out.trans ((hv1.trans (hv2.mono hv1.size)).mono HB9.out.size)⟩
            · have HE1 : Hid (decide (eachN cs cells.length) = false) := decide_eq_false he1
              have hE : E = 1 := by rw [← HEq.out.2.2.2]; unfold mvE; rw [if_neg (by rw [HKe.out]; simp), if_neg (fun h => he1 h.1)]
              have hE0 : ¬ mvE L cells f W cs fs = 0 := by rw [HEq.out.2.2.2, hE]; decide
              clear he1
              go_wp2_with fail
              refine (HEaC.out _ (Below.refl _ _)).mono ?_
              rintro e w9 ⟨rfl, hb9⟩
              rw [HE1.out]
              have HB89 : Hid (Below w8.heap.size w8 w9) := hb9
              have HB9 : Hid (Below w.heap.size w w9) := HB8.out.trans (hb9.mono HB8.out.size)
              have HSB9 := Lib.hid (HSB8.out.below hb9 hw8)
              have HR9 : Hid (w9.heap[b7]? = some (.cells #[.slice V1 C.length c1, .int .i64 F, .slice V2 Wo.length c2] 26 (0, 0)) ∧ Row w9 3 1 (.slice V1 C.length c1) C.length (ivals C) ∧ Row w9 90 4 (.slice V2 Wo.length c2) Wo.length (wrvals Wo)) := ⟨(hb9.block _ hl8).trans HR8.out.1, HR8.out.2.1.keep fun c hc => hb9.block c (HR8.out.2.1.lt c hc), HR8.out.2.2.keep fun c hc => hb9.block c (HR8.out.2.2.lt c hc)⟩
              clear hb9 n0 n1 n2 n3 n4
              have hC : C = [] := by rw [← HEq.out.1]; unfold mvC; rw [if_neg hE0]
              have hF : F = 0 := by rw [← HEq.out.2.1]; unfold mvF; rw [if_neg hE0]
              have hW : Wo = [] := by rw [← HEq.out.2.2.1]; unfold mvW; rw [if_neg hE0]
              clear HEq HKe hE0
              subst hC hF hW hE
              have hr := HR9.out.1
              simp only [List.length_nil] at hr
              have m0 := cell_heap hr 0
              have m1 := cell_heap hr 1
              have m2 := cell_heap hr 2
              simp at m0 m1 m2
              have HEqN : Hid (∀ Z, Calls Try.prog 19 #[.agg #[.slice V1 0 c1, .int .i64 0, .slice V2 0 c2], .agg #[.slice none 0 0, .int .i64 0, .slice none 0 0]] Z fun e w' => e = .returned (.bool true) ∧ Below Z.heap.size Z w') := fun Z =>
                eq_net V1 V2 none none c1 c2 0 0 [] [] 0 0 [] [] Z (by simp) (by simp) (by simp) (by simp) (Lib.hid (IntsRd.nil _ _)) (Lib.hid (WrRd.nil _ _)) (Lib.hid (IntsRd.nil _ _)) (Lib.hid (WrRd.nil _ _))
              clear hr
              go_wp2_with (first
                | (go_at_call 19; refine (HEqN.out _).mono ?_; rintro e v1 ⟨rfl, hv1⟩)
                | (go_at_call 12; refine (works03 _).mono ?_; rintro e v2 ⟨rfl, hv2⟩))
              go_ret
              exact ⟨rfl, HB9.out.trans ((hv1.trans (hv2.mono hv1.size)).mono HB9.out.size)⟩
          · have hkb : (K == 0) = false := by rw [beq_eq_false_iff_ne]; exact hk0
            have hkn : (K != 0) = true := by simpa using hk0
            have hE : E = K := by rw [← HEq.out.2.2.2]; unfold mvE; rw [if_pos (by rw [HKe.out]; exact hk0)]; exact HKe.out
            have hE0 : ¬ mvE L cells free W cs fs = 0 := by rw [HEq.out.2.2.2, hE]; exact hk0
            clear hk0
            have HSB9 := HSB8
            have HR9 := HR8
            have HB9 := HB8
            have hC : C = [] := by rw [← HEq.out.1]; unfold mvC; rw [if_neg hE0]
            have hF : F = 0 := by rw [← HEq.out.2.1]; unfold mvF; rw [if_neg hE0]
            have hW : Wo = [] := by rw [← HEq.out.2.2.1]; unfold mvW; rw [if_neg hE0]
            clear HEq HKe hE0
            subst hC hF hW hE
            have hr := HR9.out.1
            simp only [List.length_nil] at hr
            have m0 := cell_heap hr 0
            have m1 := cell_heap hr 1
            have m2 := cell_heap hr 2
            simp at m0 m1 m2
            have HEqN : Hid (∀ Z, Calls Try.prog 19 #[.agg #[.slice V1 0 c1, .int .i64 0, .slice V2 0 c2], .agg #[.slice none 0 0, .int .i64 0, .slice none 0 0]] Z fun e w' => e = .returned (.bool true) ∧ Below Z.heap.size Z w') := fun Z =>
              eq_net V1 V2 none none c1 c2 0 0 [] [] 0 0 [] [] Z (by simp) (by simp) (by simp) (by simp) (Lib.hid (IntsRd.nil _ _)) (Lib.hid (WrRd.nil _ _)) (Lib.hid (IntsRd.nil _ _)) (Lib.hid (WrRd.nil _ _))
            clear hr
            go_wp2_with (first
              | (go_at_call 19; refine (HEqN.out _).mono ?_; rintro e v1 ⟨rfl, hv1⟩)
              | (go_at_call 12; refine (works03 _).mono ?_; rintro e v2 ⟨rfl, hv2⟩))
            go_ret
            exact ⟨rfl, HB9.out.trans ((hv1.trans (hv2.mono hv1.size)).mono HB9.out.size)⟩
end
end Go.Proofs.Ytcebejcdfdahjaa
