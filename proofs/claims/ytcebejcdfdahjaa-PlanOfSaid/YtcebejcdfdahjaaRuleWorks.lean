/-
  Contracts of rule.Left on every input, and of skeinlaw15.works.
-/
import Derived.Test.YtcebejcdfdahjaaRuleFlip
import Derived.Test.YtcebejcdfdahjaaRefLeft
import Derived.Test.YtcebejcdfdahjaaNetMuch
namespace Go.Proofs.Ytcebejcdfdahjaa
open Go.RowKit
attribute [local go_sem] cell_set
attribute [local go_sem high] run_eql_wire
set_option maxRecDepth 100000
set_option linter.unusedVariables false

def leftE (L : List (ByteArray × Int)) (a b : Int) : Int := if (chk L).1 ≠ 0 then (chk L).1 else if a < 0 ∨ b < 0 ∨ (L.length : Int) ≤ a ∨ (L.length : Int) ≤ b then 20 else 0
theorem pnL_ar {L : List (ByteArray × Int)} {k m : Nat} (hk : k < L.length) (h : agA L k = m) : pnL L (k : Int) = m + 1 := by
  unfold pnL portsN
  rw [if_neg (by rw [Int.toNat_natCast, h]; omega), Int.toNat_natCast, h]
  omega
theorem left_net_ok {L : List (ByteArray × Int)} {ka kb na nb : Nat} (hs : SigOk L) (hka : ka < L.length) (hkb : kb < L.length) (hna : agA L ka = na) (hnb : agA L kb = nb) : NetOk (pnL L) [(ka : Int), (kb : Int)] (na + nb) (leftK na (na + nb)) := by
  have hra := hs.ar ka hka
  have hrb := hs.ar kb hkb
  rw [hna] at hra
  rw [hnb] at hrb
  exact left_ok (pnL_ar hka hna) (pnL_ar hkb hnb) (by omega) (by omega)
section
variable (A : Option Addr) (n cap : Nat) (L : List (ByteArray × Int)) (w : World)
theorem rule_left_full (ka kb na nb : Nat) (hn : n = L.length) (hcap : L.length ≤ cap) (HL : Hid (AgRd w A L)) (hl : L.length ≤ maxLen) (hk : (chk L).1 = 0) (hka : ka < L.length) (hkb : kb < L.length) (hna : agA L ka = na) (hnb : agA L kb = nb) :
    Calls Try.prog 46 #[.slice A n cap, .int .i64 ka, .int .i64 kb] w fun e w' => ∃ V3 c3 V4 c4, e = .returned (.tuple #[netV V3 c3 [(ka : Int), (kb : Int)] ((na + nb : Nat) : Int) V4 c4 (tidyW (allPs (pnL L) [(ka : Int), (kb : Int)] (na + nb)) (leftK na (na + nb))), .int .i64 0]) ∧ NetFresh w w' V3 c3 [(ka : Int), (kb : Int)] V4 c4 (tidyW (allPs (pnL L) [(ka : Int), (kb : Int)] (na + nb)) (leftK na (na + nb))) := by
  have hs := chk_sig hk
  have hra := hs.ar ka hka
  have hrb := hs.ar kb hkb
  rw [hna] at hra
  rw [hnb] at hrb
  refine rule_left_ok A n cap L w ka kb na nb (na + nb) rfl hn hcap HL hl hk hka hkb hna hnb (Lib.hid fun Z V1 c1 V2 c2 hz h1 h2 => ?_)
  have hok := netChk_of (most := L.length) (cS := chk L) hk (by simp) (by omega) (fun j hj => by
    simp only [List.length_cons, List.length_nil] at hj
    rcases (by omega : j = 0 ∨ j = 1) with rfl | rfl
    · simp; omega
    · simp; omega) (left_net_ok hs hka hkb hna hnb)
  exact net_tidy_ok A _ cap L V1 V2 c1 c2 [(ka : Int), (kb : Int)] ((na + nb : Nat) : Int) (leftK na (na + nb)) Z rfl hcap (Lib.hid (HL.out.below hz)) hl (Lib.hid h1) (Lib.hid h2) (by simp) (by rw [leftK_len]; omega) (by rw [hok])
theorem rleft_full (ka kb na nb : Nat) (hn : n = L.length) (HL : Hid (AgRd w A L)) (hs : SigOk L) (hka : ka < L.length) (hkb : kb < L.length) (hna : agA L ka = na) (hnb : agA L kb = nb) :
    Calls Try.prog 48 #[.slice A n cap, .int .i64 ka, .int .i64 kb] w fun e w' => ∃ V3 c3 V4 c4, e = .returned (netV V3 c3 [(ka : Int), (kb : Int)] ((na + nb : Nat) : Int) V4 c4 (tidyW (allPs (pnL L) [(ka : Int), (kb : Int)] (na + nb)) (leftK na (na + nb)))) ∧ NetFresh w w' V3 c3 [(ka : Int), (kb : Int)] V4 c4 (tidyW (allPs (pnL L) [(ka : Int), (kb : Int)] (na + nb)) (leftK na (na + nb))) := by
  have hra := hs.ar ka hka
  have hrb := hs.ar kb hkb
  rw [hna] at hra
  rw [hnb] at hrb
  refine rleft A n cap L w ka kb na nb (na + nb) rfl hn HL hs hka hkb hna hnb (Lib.hid fun Z V1 c1 V2 c2 hz h1 h2 => ?_)
  exact rneat A _ cap L V1 V2 c1 c2 [(ka : Int), (kb : Int)] (na + nb) (leftK na (na + nb)) Z rfl (Lib.hid (HL.out.below hz)) hs (Lib.hid h1) (Lib.hid h2) (by simp) (by omega) (by rw [leftK_len]; omega) (Lib.hid (left_net_ok hs hka hkb hna hnb))
set_option maxHeartbeats 2000000 in
theorem rule_left_bad (a b E : Int) (hn : n = L.length) (hcap : L.length ≤ cap) (HL : Hid (AgRd w A L)) (hl : L.length ≤ maxLen) (hE : leftE L a b = E) (hE0 : E ≠ 0) :
    Calls Try.prog 46 #[.slice A n cap, .int .i64 a, .int .i64 b] w fun e w' => e = .returned (.tuple #[netV none 0 [] 0 none 0 [], .int .i64 E]) ∧ Below w.heap.size w w' := by
  subst hn
  have hbA : Below w.heap.size w (w.alloc (.cells #[.slice none 0 0, .int .i64 0, .slice none 0 0] 26)) := by (repeat (first | exact Below.refl _ _ | (with_reducible refine Below.drew ?_) | (with_reducible refine Below.alloc ?_ (by (try simp); (try omega)) _) | (with_reducible refine Below.setCell ?_ (by (try simp); (try omega)) _) | (with_reducible refine Below.trans ?_ (Below.mono (by assumption) (by (try simp); (try omega))))))
  have hz0 : Hid ((w.alloc (.cells #[.slice none 0 0, .int .i64 0, .slice none 0 0] 26)).heap[w.heap.size]? = some (.cells #[.slice none 0 0, .int .i64 0, .slice none 0 0] 26 (0, 0))) := heap_alloc_new _ _
  unfold leftE at hE
  unfold maxLen at hl
  have hl' := hl
  replace hl : L.length ≤ maxLen := by simp only [maxLen]; exact hl
  by_cases h0 : (chk L).1 = 0
  · rw [if_neg (by simpa using h0)] at hE
    have HK := Lib.hid h0
    by_cases h1 : a < 0 ∨ b < 0 ∨ (L.length : Int) ≤ a ∨ (L.length : Int) ≤ b
    · rw [if_pos h1] at hE
      subst hE
      clear h0 hE0
      rcases (by omega : a < 0 ∨ (0 ≤ a ∧ b < 0) ∨ (0 ≤ a ∧ 0 ≤ b ∧ (L.length : Int) ≤ a) ∨ (0 ≤ a ∧ 0 ≤ b ∧ a < L.length ∧ (L.length : Int) ≤ b)) with h | ⟨h, h'⟩ | ⟨h, h', h2⟩ | ⟨h, h', h2, h3⟩
      · clear h1
        go_enter Try.func46, Try.ntmps46
        go_wp2_with (go_at_call 89; refine (check_any _ _ cap L _ rfl hl hcap (Lib.hid (HL.out.below hbA))).mono ?_; rintro e w1 ⟨rfl, hb1⟩; rw [HK.out]
                     have hq := (hb1.block _ (by simp)).trans hz0.out
                     have q0 : w1.cell? ⟨w.heap.size, 0, none⟩ = some (.slice none 0 0) := by simp [World.cell?, hq]
                     have q1 : w1.cell? ⟨w.heap.size, 1, none⟩ = some (.int .i64 0) := by simp [World.cell?, hq]
                     have q2 : w1.cell? ⟨w.heap.size, 2, none⟩ = some (.slice none 0 0) := by simp [World.cell?, hq]
                     have q3 : w1.frozen? ⟨w.heap.size, 0, none⟩ = false := by simp [World.frozen?, hq]
                     have q4 : w1.frozen? ⟨w.heap.size, 1, none⟩ = false := by simp [World.frozen?, hq]
                     have q5 : w1.frozen? ⟨w.heap.size, 2, none⟩ = false := by simp [World.frozen?, hq]
                     have HB1 : Hid (Below w.heap.size w w1) := hbA.trans (hb1.mono (by simp <;> omega))
                     clear hb1 hq)
        exact bodyPost_ret (v := .tuple #[netV none 0 [] 0 none 0 [], .int .i64 20]) (by simp only [results, Try.results46]; go_simp) rfl ⟨rfl, by have := HB1.out; (repeat (first | (with_reducible exact Below.refl _ _) | (with_reducible assumption) | (with_reducible refine Below.drew ?_) | (with_reducible refine Below.alloc ?_ (by (try simp); (try omega)) _) | (with_reducible refine Below.setCell ?_ (by (try simp); (try omega)) _)))⟩
      · clear h1
        go_enter Try.func46, Try.ntmps46
        go_wp2_with (go_at_call 89; refine (check_any _ _ cap L _ rfl hl hcap (Lib.hid (HL.out.below hbA))).mono ?_; rintro e w1 ⟨rfl, hb1⟩; rw [HK.out]
                     have hq := (hb1.block _ (by simp)).trans hz0.out
                     have q0 : w1.cell? ⟨w.heap.size, 0, none⟩ = some (.slice none 0 0) := by simp [World.cell?, hq]
                     have q1 : w1.cell? ⟨w.heap.size, 1, none⟩ = some (.int .i64 0) := by simp [World.cell?, hq]
                     have q2 : w1.cell? ⟨w.heap.size, 2, none⟩ = some (.slice none 0 0) := by simp [World.cell?, hq]
                     have q3 : w1.frozen? ⟨w.heap.size, 0, none⟩ = false := by simp [World.frozen?, hq]
                     have q4 : w1.frozen? ⟨w.heap.size, 1, none⟩ = false := by simp [World.frozen?, hq]
                     have q5 : w1.frozen? ⟨w.heap.size, 2, none⟩ = false := by simp [World.frozen?, hq]
                     have HB1 : Hid (Below w.heap.size w w1) := hbA.trans (hb1.mono (by simp <;> omega))
                     clear hb1 hq)
        exact bodyPost_ret (v := .tuple #[netV none 0 [] 0 none 0 [], .int .i64 20]) (by simp only [results, Try.results46]; go_simp) rfl ⟨rfl, by have := HB1.out; (repeat (first | (with_reducible exact Below.refl _ _) | (with_reducible assumption) | (with_reducible refine Below.drew ?_) | (with_reducible refine Below.alloc ?_ (by (try simp); (try omega)) _) | (with_reducible refine Below.setCell ?_ (by (try simp); (try omega)) _)))⟩
      · clear h1
        go_enter Try.func46, Try.ntmps46
        go_wp2_with (go_at_call 89; refine (check_any _ _ cap L _ rfl hl hcap (Lib.hid (HL.out.below hbA))).mono ?_; rintro e w1 ⟨rfl, hb1⟩; rw [HK.out]
                     have hq := (hb1.block _ (by simp)).trans hz0.out
                     have q0 : w1.cell? ⟨w.heap.size, 0, none⟩ = some (.slice none 0 0) := by simp [World.cell?, hq]
                     have q1 : w1.cell? ⟨w.heap.size, 1, none⟩ = some (.int .i64 0) := by simp [World.cell?, hq]
                     have q2 : w1.cell? ⟨w.heap.size, 2, none⟩ = some (.slice none 0 0) := by simp [World.cell?, hq]
                     have q3 : w1.frozen? ⟨w.heap.size, 0, none⟩ = false := by simp [World.frozen?, hq]
                     have q4 : w1.frozen? ⟨w.heap.size, 1, none⟩ = false := by simp [World.frozen?, hq]
                     have q5 : w1.frozen? ⟨w.heap.size, 2, none⟩ = false := by simp [World.frozen?, hq]
                     have HB1 : Hid (Below w.heap.size w w1) := hbA.trans (hb1.mono (by simp <;> omega))
                     clear hb1 hq)
        exact bodyPost_ret (v := .tuple #[netV none 0 [] 0 none 0 [], .int .i64 20]) (by simp only [results, Try.results46]; go_simp) rfl ⟨rfl, by have := HB1.out; (repeat (first | (with_reducible exact Below.refl _ _) | (with_reducible assumption) | (with_reducible refine Below.drew ?_) | (with_reducible refine Below.alloc ?_ (by (try simp); (try omega)) _) | (with_reducible refine Below.setCell ?_ (by (try simp); (try omega)) _)))⟩
      · clear h1
        go_enter Try.func46, Try.ntmps46
        go_wp2_with (go_at_call 89; refine (check_any _ _ cap L _ rfl hl hcap (Lib.hid (HL.out.below hbA))).mono ?_; rintro e w1 ⟨rfl, hb1⟩; rw [HK.out]
                     have hq := (hb1.block _ (by simp)).trans hz0.out
                     have q0 : w1.cell? ⟨w.heap.size, 0, none⟩ = some (.slice none 0 0) := by simp [World.cell?, hq]
                     have q1 : w1.cell? ⟨w.heap.size, 1, none⟩ = some (.int .i64 0) := by simp [World.cell?, hq]
                     have q2 : w1.cell? ⟨w.heap.size, 2, none⟩ = some (.slice none 0 0) := by simp [World.cell?, hq]
                     have q3 : w1.frozen? ⟨w.heap.size, 0, none⟩ = false := by simp [World.frozen?, hq]
                     have q4 : w1.frozen? ⟨w.heap.size, 1, none⟩ = false := by simp [World.frozen?, hq]
                     have q5 : w1.frozen? ⟨w.heap.size, 2, none⟩ = false := by simp [World.frozen?, hq]
                     have HB1 : Hid (Below w.heap.size w w1) := hbA.trans (hb1.mono (by simp <;> omega))
                     clear hb1 hq)
        exact bodyPost_ret (v := .tuple #[netV none 0 [] 0 none 0 [], .int .i64 20]) (by simp only [results, Try.results46]; go_simp) rfl ⟨rfl, by have := HB1.out; (repeat (first | (with_reducible exact Below.refl _ _) | (with_reducible assumption) | (with_reducible refine Below.drew ?_) | (with_reducible refine Below.alloc ?_ (by (try simp); (try omega)) _) | (with_reducible refine Below.setCell ?_ (by (try simp); (try omega)) _)))⟩
    · rw [if_neg h1] at hE
      exact absurd hE.symm hE0
  · rw [if_pos (by simpa using h0)] at hE
    have HK := Lib.hid hE
    have hkb : (E != 0) = true := by simpa using hE0
    clear h0 hE hE0
    go_enter Try.func46, Try.ntmps46
    go_wp2_with (go_at_call 89; refine (check_any _ _ cap L _ rfl hl hcap (Lib.hid (HL.out.below hbA))).mono ?_; rintro e w1 ⟨rfl, hb1⟩; rw [HK.out]
                 have hq := (hb1.block _ (by simp)).trans hz0.out
                 have q0 : w1.cell? ⟨w.heap.size, 0, none⟩ = some (.slice none 0 0) := by simp [World.cell?, hq]
                 have q1 : w1.cell? ⟨w.heap.size, 1, none⟩ = some (.int .i64 0) := by simp [World.cell?, hq]
                 have q2 : w1.cell? ⟨w.heap.size, 2, none⟩ = some (.slice none 0 0) := by simp [World.cell?, hq]
                 have q3 : w1.frozen? ⟨w.heap.size, 0, none⟩ = false := by simp [World.frozen?, hq]
                 have q4 : w1.frozen? ⟨w.heap.size, 1, none⟩ = false := by simp [World.frozen?, hq]
                 have q5 : w1.frozen? ⟨w.heap.size, 2, none⟩ = false := by simp [World.frozen?, hq]
                 have HB1 : Hid (Below w.heap.size w w1) := hbA.trans (hb1.mono (by simp <;> omega))
                 clear hb1 hq)
    exact bodyPost_ret (v := .tuple #[netV none 0 [] 0 none 0 [], .int .i64 E]) (by simp only [results, Try.results46]; go_simp) rfl ⟨rfl, by have := HB1.out; (repeat (first | (with_reducible exact Below.refl _ _) | (with_reducible assumption) | (with_reducible refine Below.drew ?_) | (with_reducible refine Below.alloc ?_ (by (try simp); (try omega)) _) | (with_reducible refine Below.setCell ?_ (by (try simp); (try omega)) _)))⟩
end
/-! ### works -/
def L15 : List (ByteArray × Int) := [(⟨#[90]⟩, 0), (⟨#[65]⟩, 2)]
def W15 : List (Pt × Pt) := [((-1, 1), (-1, 0))]
def T15 : List (Pt × Pt) := [((-1, 0), (0, 1)), ((-1, 1), (0, 2)), ((0, 0), (1, 0))]
theorem chk15 : chk L15 = (0, 0) := by decide +kernel
theorem rule15 : ruleChk L15 1 0 [] 2 W15 = (0, 0) := by decide +kernel
theorem left15 : tidyW (allPs (pnL L15) [1, 0] 2) (leftK 2 2) = T15 := by decide +kernel
theorem ag15 {w : World} {b : Nat} {c : Nat × Nat} (h : w.heap[b]? = some (.cells #[.string ⟨#[90]⟩, .int .i64 0, .string ⟨#[65]⟩, .int .i64 2] 94 c)) : AgRd w (some ⟨b, 0, none⟩) L15 := fun i hi => by
  have hi2 : i = 0 ∨ i = 1 := by simp [L15] at hi; omega
  refine ⟨b, 0, rfl, heap_lt h, ?_, ?_⟩ <;> rcases hi2 with rfl | rfl <;> simp [World.cell?, h, L15, agN, agA]
theorem wr15 {w : World} {b : Nat} {c : Nat × Nat} (h : w.heap[b]? = some (.cells #[.int .i64 (-1), .int .i64 1, .int .i64 (-1), .int .i64 0] 90 c)) : WrRd w (some ⟨b, 0, none⟩) W15 := fun i hi => by
  have hi2 : i = 0 := by simp [W15] at hi; omega
  refine ⟨b, 0, rfl, heap_lt h, ?_, ?_, ?_, ?_⟩ <;> subst hi2 <;> simp [World.cell?, h, W15]
def Lit15 (b : Nat) (X : World) : Prop := X.heap[b]? = some (.cells #[.string ⟨#[90]⟩, .int .i64 0, .string ⟨#[65]⟩, .int .i64 2] 94 (0, 0)) ∧ X.heap[b + 1]? = some (.cells #[.int .i64 (-1), .int .i64 1, .int .i64 (-1), .int .i64 0] 90 (0, 0)) ∧
  X.heap[b + 2]? = some (.cells #[.int .i64 1, .int .i64 0, .slice none 0 0, .int .i64 2, .slice (some ⟨b + 1, 0, none⟩) 1 1] 44 (0, 0))
theorem Lit15.below {b : Nat} {X X' : World} (h : Lit15 b X) (hb : Below X.heap.size X X') : Lit15 b X' :=
  ⟨(hb.block _ (heap_lt h.1)).trans h.1, (hb.block _ (heap_lt h.2.1)).trans h.2.1, (hb.block _ (heap_lt h.2.2)).trans h.2.2⟩
theorem IntsRd.nil0 (w : World) (A : Option Addr) : IntsRd w A [] := fun i hi => by simp at hi
theorem check15 {b : Nat} {X : World} (h : Lit15 b X) : Calls Try.prog 50 #[.slice (some ⟨b, 0, none⟩) 2 2, .agg #[.int .i64 1, .int .i64 0, .slice none 0 0, .int .i64 2, .slice (some ⟨b + 1, 0, none⟩) 1 1]] X fun e w' => e = .returned (.tuple #[.int .i64 0, .int .i64 0]) ∧ Below X.heap.size X w' := by
  have := rule_check (some ⟨b, 0, none⟩) 2 2 L15 1 0 none (some ⟨b + 1, 0, none⟩) 0 1 [] 2 W15 X rfl (by decide) (Lib.hid (ag15 h.1)) (by decide) (Lib.hid (IntsRd.nil0 _ _)) (Lib.hid (wr15 h.2.1)) (by decide) (by decide)
  rw [rule15] at this
  exact this
theorem flip15 {b : Nat} {X : World} (h : Lit15 b X) : Calls Try.prog 52 #[.slice (some ⟨b, 0, none⟩) 2 2, .agg #[.int .i64 1, .int .i64 0, .slice none 0 0, .int .i64 2, .slice (some ⟨b + 1, 0, none⟩) 1 1]] X fun e w' => ∃ V1 n1 c1 V2 n2 c2, e = .returned (.tuple #[.agg #[.int .i64 0, .int .i64 1, .slice V1 n1 c1, .int .i64 2, .slice V2 n2 c2], .int .i64 0]) ∧ Below X.heap.size X w' := by
  have := rule_flip_ok (some ⟨b, 0, none⟩) 2 2 L15 1 0 2 0 none (some ⟨b + 1, 0, none⟩) 0 1 [] W15 X 2 rfl rfl (by decide) (Lib.hid (ag15 h.1)) (by decide) (Lib.hid (IntsRd.nil0 _ _)) (Lib.hid (wr15 h.2.1)) (by decide) (by decide) (by decide) (by decide) (by show (ruleChk L15 1 0 [] 2 W15).1 = 0; rw [rule15])
  refine Calls.mono this ?_
  rintro e w' ⟨V1, c1, V2, c2, rfl, hnf⟩
  exact ⟨V1, _, c1, V2, _, c2, rfl, hnf.1.2.2⟩
theorem leftc15 {b : Nat} {X : World} (h : Lit15 b X) : Calls Try.prog 46 #[.slice (some ⟨b, 0, none⟩) 2 2, .int .i64 1, .int .i64 0] X fun e w' => ∃ V1 n1 c1 V2 c2, e = .returned (.tuple #[.agg #[.slice V1 n1 c1, .int .i64 2, .slice V2 3 c2], .int .i64 0]) ∧ WrRd w' V2 T15 ∧ Below X.heap.size X w' := by
  have := rule_left_full (some ⟨b, 0, none⟩) 2 2 L15 X 1 0 2 0 rfl (by decide) (Lib.hid (ag15 h.1)) (by decide) (by rw [chk15]) (by decide) (by decide) (by decide) (by decide)
  refine Calls.mono this ?_
  rintro e w' ⟨V1, c1, V2, c2, rfl, hnf⟩
  have e : tidyW (allPs (pnL L15) [((1 : Nat) : Int), ((0 : Nat) : Int)] (2 + 0)) (leftK 2 (2 + 0)) = T15 := left15
  rw [e] at hnf ⊢
  exact ⟨V1, _, c1, V2, c2, rfl, hnf.2.1.wires, hnf.1.2.2⟩
set_option maxHeartbeats 2000000 in
theorem works15 (w : World) : Calls Try.prog 45 #[] w fun e w' => e = .returned (.bool true) ∧ Below w.heap.size w w' := by
  go_enter Try.func45, Try.ntmps45
  go_upto_region 3 with fail
  refine absW (fun X => Lit15 w.heap.size X ∧ Below w.heap.size w X) ⟨heap3 w _ _ _, by (repeat (first | exact Below.refl _ _ | (with_reducible refine Below.drew ?_) | (with_reducible refine Below.alloc ?_ (by (try simp); (try omega)) _) | (with_reducible refine Below.setCell ?_ (by (try simp); (try omega)) _) | (with_reducible refine Below.trans ?_ (Below.mono (by assumption) (by (try simp); (try omega))))))⟩ ?_
  rintro X ⟨hlit, hbx⟩
  have HL := Lib.hid hlit
  have HB := Lib.hid hbx
  clear hlit hbx
  have n0 : X.cell? ⟨w.heap.size + 2, 0, none⟩ = some (.int .i64 1) := by simp [World.cell?, HL.out.2.2]
  have n1 : X.cell? ⟨w.heap.size + 2, 1, none⟩ = some (.int .i64 0) := by simp [World.cell?, HL.out.2.2]
  have n2 : X.cell? ⟨w.heap.size + 2, 2, none⟩ = some (.slice none 0 0) := by simp [World.cell?, HL.out.2.2]
  have n3 : X.cell? ⟨w.heap.size + 2, 3, none⟩ = some (.int .i64 2) := by simp [World.cell?, HL.out.2.2]
  have n4 : X.cell? ⟨w.heap.size + 2, 4, none⟩ = some (.slice (some ⟨w.heap.size + 1, 0, none⟩) 1 1) := by simp [World.cell?, HL.out.2.2]
  go_wp2_with fail
  refine (check15 HL.out).mono ?_
  rintro e w1 ⟨rfl, hb1⟩
  have HB1 := Lib.hid (HB.out.trans (hb1.mono HB.out.size))
  have HL1 := Lib.hid (HL.out.below hb1)
  have hl1 := heap_lt HL1.out.2.2
  clear n0 n1 n2 n3 n4 hb1
  have n0 : w1.cell? ⟨w.heap.size + 2, 0, none⟩ = some (.int .i64 1) := by simp [World.cell?, HL1.out.2.2]
  have n1 : w1.cell? ⟨w.heap.size + 2, 1, none⟩ = some (.int .i64 0) := by simp [World.cell?, HL1.out.2.2]
  have n2 : w1.cell? ⟨w.heap.size + 2, 2, none⟩ = some (.slice none 0 0) := by simp [World.cell?, HL1.out.2.2]
  have n3 : w1.cell? ⟨w.heap.size + 2, 3, none⟩ = some (.int .i64 2) := by simp [World.cell?, HL1.out.2.2]
  have n4 : w1.cell? ⟨w.heap.size + 2, 4, none⟩ = some (.slice (some ⟨w.heap.size + 1, 0, none⟩) 1 1) := by simp [World.cell?, HL1.out.2.2]
  go_wp2_with fail
  refine (flip15 HL1.out).mono ?_
  rintro e w2 ⟨V1, m1, c1, V2, m2, c2, rfl, hb2⟩
  have HB2 := Lib.hid (HB1.out.trans (hb2.mono HB1.out.size))
  have HL2 := Lib.hid (HL1.out.below hb2)
  clear n0 n1 n2 n3 n4 hb2
  go_wp2_with fail
  refine (leftc15 (HL2.out.below ((Below.refl _ _).alloc (Nat.le_refl _) _))).mono ?_
  rintro e w3 ⟨V3, m3, c3, V4, c4, rfl, hw3, hb3⟩
  have q0 : w3.cell? ⟨w2.heap.size, 0, none⟩ = some (.int .i64 0) := (hb3.cell (p := ⟨w2.heap.size, 0, none⟩) (by simp)).trans (by go_simp)
  have q1 : w3.cell? ⟨w2.heap.size, 1, none⟩ = some (.int .i64 1) := (hb3.cell (p := ⟨w2.heap.size, 1, none⟩) (by simp)).trans (by go_simp)
  have HB3 := Lib.hid (HB2.out.trans ((((Below.refl _ w2).alloc (Nat.le_refl _) _).trans (hb3.mono (by simp))).mono HB2.out.size))
  have hz3 := hb3.size
  simp only [World.size_alloc] at hz3
  have hz3s : w2.heap.size < w3.heap.size := by omega
  obtain ⟨b, off, rfl, hb, e0, e1, e2, e3⟩ := hw3 2 (by decide)
  have hE2 : eqW ((0, 0), (1, 0)) ((0, 0), (1, 0)) = true := by decide
  simp only [T15, List.getD_cons_zero, List.getD_cons_succ, Nat.reduceMul, Nat.add_assoc, Nat.reduceAdd] at e0 e1 e2 e3
  clear hw3 hb3
  go_wp2
  go_ret
  exact ⟨rfl, by have := HB3.out; have hz9 := this.size; (repeat (first | (with_reducible exact Below.refl _ _) | (with_reducible assumption) | (with_reducible refine Below.drew ?_) | (with_reducible refine Below.alloc ?_ (by (try simp); (try omega)) _) | (with_reducible refine Below.setCell ?_ (by (try simp); (try omega)) _)))⟩
end Go.Proofs.Ytcebejcdfdahjaa
