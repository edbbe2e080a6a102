/-
  The walks of the laws of layer 6 (word).
-/
import Derived.Test.YtbdfkgchliakfaaWord
namespace Go.Proofs.Ytbdfkgchliakfaa
open Go.RowKit
attribute [local go_sem] cell_set
set_option maxRecDepth 100000

theorem runpack_any (v : Int) (H : Hid (0 ≤ v ∧ v < 4294967296)) (w : World) :
    Calls Try.prog 15 #[.int .u32 v] w fun e w' => e = .returned (.tuple #[.agg #[.int .i64 (upC v), .int .i64 (upS v)], .bool (unOk v)]) ∧ Below w.heap.size w w' := by
  by_cases hv : 2147483648 ≤ v
  · have hcs : Hid ((-1 : Int) = unC v ∧ (v - 2147483648) % 4294967296 = unS v) := by
      have := H.out
      exact ⟨by simp [unC, hv], by simp [unS, hv]; omega⟩
    go_enter Try.func15, Try.ntmps15
    go_wp2_with fail
    rw [hcs.out.2, hcs.out.1]
    clear hv
    refine (rpack_any _ _ _).mono ?_
    rintro e w' ⟨rfl, hb⟩
    obtain ⟨hc, hf⟩ := bcell hb; obtain ⟨hz, hzb⟩ : w.heap.size < w'.heap.size ∧ w.heap.size + 1 < w'.heap.size := (by have := hb.size; (try simp at this); omega)
    go_wp2
    · obtain ⟨e1, e2, e3⟩ := upNo (v := v) (fun _ h2 => by simp_all)
      exact bodyPost_ret (v := .tuple #[.agg #[.int .i64 0, .int .i64 0], .bool false]) (by simp only [results, Try.results15]; go_simp) rfl ⟨retPB e1 e2 e3, by (repeat (first | exact Below.refl _ _ | (with_reducible refine Below.drew ?_) | (with_reducible refine Below.alloc ?_ (by (try simp); (try omega)) _) | (with_reducible refine Below.setCell ?_ (by (try simp); (try omega)) _) | (with_reducible refine Below.trans ?_ (Below.mono (by assumption) (by (try simp); (try omega))))))⟩
    · obtain ⟨e1, e2, e3⟩ := upYes (v := v) (by assumption) (by simp_all)
      exact bodyPost_ret (v := .tuple #[.agg #[.int .i64 (unC v), .int .i64 (unS v)], .bool true]) (by simp only [results, Try.results15]; go_simp) rfl ⟨retPB e1 e2 e3, by (repeat (first | exact Below.refl _ _ | (with_reducible refine Below.drew ?_) | (with_reducible refine Below.alloc ?_ (by (try simp); (try omega)) _) | (with_reducible refine Below.setCell ?_ (by (try simp); (try omega)) _) | (with_reducible refine Below.trans ?_ (Below.mono (by assumption) (by (try simp); (try omega))))))⟩
    · obtain ⟨e1, e2, e3⟩ := upNo (v := v) (fun h1 _ => by contradiction)
      exact bodyPost_ret (v := .tuple #[.agg #[.int .i64 0, .int .i64 0], .bool false]) (by simp only [results, Try.results15]; go_simp) rfl ⟨retPB e1 e2 e3, by (repeat (first | exact Below.refl _ _ | (with_reducible refine Below.drew ?_) | (with_reducible refine Below.alloc ?_ (by (try simp); (try omega)) _) | (with_reducible refine Below.setCell ?_ (by (try simp); (try omega)) _) | (with_reducible refine Below.trans ?_ (Below.mono (by assumption) (by (try simp); (try omega))))))⟩
  · have hcs : Hid (v.tdiv 8 % 4294967296 = unC v ∧ wrap64 (v.tmod 8) = unS v) := by
      have := H.out
      rw [Int.tdiv_eq_ediv_of_nonneg this.1, Int.tmod_eq_emod_of_nonneg this.1]
      exact ⟨by simp [unC, hv]; omega, by simp [unS, hv, wrap64]; omega⟩
    go_enter Try.func15, Try.ntmps15
    go_wp2_with fail
    rw [hcs.out.2, hcs.out.1]
    clear hv
    refine (rpack_any _ _ _).mono ?_
    rintro e w' ⟨rfl, hb⟩
    obtain ⟨hc, hf⟩ := bcell hb; obtain ⟨hz, hzb⟩ : w.heap.size < w'.heap.size ∧ w.heap.size + 1 < w'.heap.size := (by have := hb.size; (try simp at this); omega)
    go_wp2
    · obtain ⟨e1, e2, e3⟩ := upNo (v := v) (fun _ h2 => by simp_all)
      exact bodyPost_ret (v := .tuple #[.agg #[.int .i64 0, .int .i64 0], .bool false]) (by simp only [results, Try.results15]; go_simp) rfl ⟨retPB e1 e2 e3, by (repeat (first | exact Below.refl _ _ | (with_reducible refine Below.drew ?_) | (with_reducible refine Below.alloc ?_ (by (try simp); (try omega)) _) | (with_reducible refine Below.setCell ?_ (by (try simp); (try omega)) _) | (with_reducible refine Below.trans ?_ (Below.mono (by assumption) (by (try simp); (try omega))))))⟩
    · obtain ⟨e1, e2, e3⟩ := upYes (v := v) (by assumption) (by simp_all)
      exact bodyPost_ret (v := .tuple #[.agg #[.int .i64 (unC v), .int .i64 (unS v)], .bool true]) (by simp only [results, Try.results15]; go_simp) rfl ⟨retPB e1 e2 e3, by (repeat (first | exact Below.refl _ _ | (with_reducible refine Below.drew ?_) | (with_reducible refine Below.alloc ?_ (by (try simp); (try omega)) _) | (with_reducible refine Below.setCell ?_ (by (try simp); (try omega)) _) | (with_reducible refine Below.trans ?_ (Below.mono (by assumption) (by (try simp); (try omega))))))⟩
    · obtain ⟨e1, e2, e3⟩ := upNo (v := v) (fun h1 _ => by contradiction)
      exact bodyPost_ret (v := .tuple #[.agg #[.int .i64 0, .int .i64 0], .bool false]) (by simp only [results, Try.results15]; go_simp) rfl ⟨retPB e1 e2 e3, by (repeat (first | exact Below.refl _ _ | (with_reducible refine Below.drew ?_) | (with_reducible refine Below.alloc ?_ (by (try simp); (try omega)) _) | (with_reducible refine Below.setCell ?_ (by (try simp); (try omega)) _) | (with_reducible refine Below.trans ?_ (Below.mono (by assumption) (by (try simp); (try omega))))))⟩

theorem works06 (w : World) : Calls Try.prog 13 #[] w fun e w' => e = .returned (.bool true) ∧ Below w.heap.size w w' := by
  have e1 : pkW 1 3 = 11 := by decide
  have e2 : pkE 1 3 = 0 := by decide
  have e3 : upC 2147483649 = -1 := by decide +kernel
  have e4 : upS 2147483649 = 1 := by decide +kernel
  have e5 : unOk 2147483649 = true := by decide +kernel
  have H3 := Lib.hid e3
  have H4 := Lib.hid e4
  have H5 := Lib.hid e5
  clear e3 e4 e5
  go_enter Try.func13, Try.ntmps13
  go_wp2_with (first
    | (go_at_call 11; refine (pack_any _ _ _).mono ?_; rintro e w' ⟨rfl, hb⟩; have hz := hb.size)
    | (go_at_call 14; refine (unpack_any _ (by exact ⟨by decide, by decide⟩) _).mono ?_; rintro e w2 ⟨rfl, hb2⟩; rw [H3.out, H4.out, H5.out]; have hz2 := hb2.size))
  go_ret
  exact ⟨rfl, by (repeat (first | exact Below.refl _ _ | (with_reducible refine Below.drew ?_) | (with_reducible refine Below.alloc ?_ (by (try simp); (try omega)) _) | (with_reducible refine Below.setCell ?_ (by (try simp); (try omega)) _) | (with_reducible refine Below.trans ?_ (Below.mono (by assumption) (by (try simp); (try omega))))))⟩

theorem pk_back {c s : Int} (h : pkE c s = 0) : 0 ≤ pkW c s ∧ pkW c s < 4294967295 ∧ upC (pkW c s) = c ∧ upS (pkW c s) = s ∧ unOk (pkW c s) = true := by
  have hw : (c = -1 ∧ 0 ≤ s ∧ s < 64 ∧ pkW c s = 2147483648 + s) ∨ (0 ≤ c ∧ c < 4096 ∧ 0 ≤ s ∧ s ≤ 6 ∧ pkW c s = 8 * c + s) := by
    unfold pkE at h; unfold pkW
    by_cases h1 : c = -1 ∧ 0 ≤ s ∧ s < 64
    · exact .inl ⟨h1.1, h1.2.1, h1.2.2, by rw [if_pos h1]⟩
    · rw [if_neg h1] at h
      by_cases h2 : 0 ≤ c ∧ c < 4096 ∧ 0 ≤ s ∧ s ≤ 6
      · exact .inr ⟨h2.1, h2.2.1, h2.2.2.1, h2.2.2.2, by rw [if_neg h1, if_pos h2]⟩
      · rw [if_neg h2] at h; omega
  have hc : unC (pkW c s) = c := by
    unfold unC
    rcases hw with ⟨h1, h2, h3, h4⟩ | ⟨h1, h2, h3, h5, h4⟩ <;> rw [h4]
    · rw [if_pos (by omega)]; omega
    · rw [if_neg (by omega)]; omega
  have hs : unS (pkW c s) = s := by
    unfold unS
    rcases hw with ⟨h1, h2, h3, h4⟩ | ⟨h1, h2, h3, h5, h4⟩ <;> rw [h4]
    · rw [if_pos (by omega)]; omega
    · rw [if_neg (by omega)]; omega
  have ho : unOk (pkW c s) = true := by simp [unOk, hc, hs, h]
  refine ⟨?_, ?_, by simp [upC, ho, hc], by simp [upS, ho, hs], ho⟩
  · omega
  · omega
theorem pk_no {c s : Int} (h : ¬ pkE c s = 0) : pkE c s = 30 ∧ pkW c s = 0 := by
  unfold pkE at h ⊢; unfold pkW
  by_cases h1 : c = -1 ∧ 0 ≤ s ∧ s < 64
  · simp [h1] at h
  · rw [if_neg h1] at h
    by_cases h2 : 0 ≤ c ∧ c < 4096 ∧ 0 ≤ s ∧ s ≤ 6
    · simp [h2] at h
    · rw [if_neg h1, if_neg h2, if_neg h1, if_neg h2]; exact ⟨rfl, rfl⟩

theorem ports_walk (c s : Int) (w : World) :
    Calls Try.prog 3 #[.agg #[.int .i64 c, .int .i64 s]] w fun e w' => e = .returned (.bool true) ∧ Below w.heap.size w w' := by
  by_cases h : pkE c s = 0
  · obtain ⟨g1, g2, g3, g4, g5⟩ := pk_back h
    have H := Lib.hid (And.intro g1 g2)
    have G := Lib.hid (And.intro h (And.intro g3 (And.intro g4 g5)))
    have g6 : (pkW c s != 4294967295) = true := by rw [bne_iff_ne]; omega
    have H6 := Lib.hid g6
    clear g1 g2 g3 g4 g5 g6 h
    go_enter Try.func3, Try.ntmps3
    go_wp2_with (first
      | (go_at_call 11; refine (pack_any _ _ _).mono ?_; rintro e w' ⟨rfl, hb⟩; rw [G.out.1]; obtain ⟨hc, hf⟩ := bcell hb; have hz : w.heap.size < w'.heap.size := (by have := hb.size; (try simp at this); omega))
      | (go_at_call 12; refine (rpack_any _ _ _).mono ?_; rintro e w2 ⟨rfl, hb2⟩; rw [G.out.1]; obtain ⟨hc2, hf2⟩ := bcell hb2; have hz2 : w.heap.size < w2.heap.size := (by have := hb2.size; (try simp at this); omega))
      | (go_at_call 14; refine (unpack_any _ (by exact ⟨H.out.1, by have := H.out.2; omega⟩) _).mono ?_; rintro e w3 ⟨rfl, hb3⟩; rw [G.out.2.1, G.out.2.2.1, G.out.2.2.2]; obtain ⟨hc3, hf3⟩ := bcell hb3; have hz3 : w.heap.size < w3.heap.size := (by have := hb3.size; (try simp at this); omega); have g6 := H6.out)
      | (go_at_call 13; refine (works06 _).mono ?_; rintro e w4 ⟨rfl, hb4⟩; have hz4 := hb4.size; simp at hz4))
    all_goals go_ret
    exact ⟨rfl, by (repeat (first | exact Below.refl _ _ | (with_reducible refine Below.drew ?_) | (with_reducible refine Below.alloc ?_ (by (try simp); (try omega)) _) | (with_reducible refine Below.setCell ?_ (by (try simp); (try omega)) _) | (with_reducible refine Below.trans ?_ (Below.mono (by assumption) (by (try simp); (try omega))))))⟩
  · obtain ⟨g1, g2⟩ := pk_no h
    clear h
    go_enter Try.func3, Try.ntmps3
    go_wp2_with (first
      | (go_at_call 11; refine (pack_any _ _ _).mono ?_; rintro e w' ⟨rfl, hb⟩; obtain ⟨hc, hf⟩ := bcell hb; have hz : w.heap.size < w'.heap.size := (by have := hb.size; (try simp at this); omega))
      | (go_at_call 12; refine (rpack_any _ _ _).mono ?_; rintro e w2 ⟨rfl, hb2⟩; obtain ⟨hc2, hf2⟩ := bcell hb2; have hz2 : w.heap.size < w2.heap.size := (by have := hb2.size; (try simp at this); omega))
      | (go_at_call 13; refine (works06 _).mono ?_; rintro e w4 ⟨rfl, hb4⟩; have hz4 := hb4.size))
    all_goals go_ret
    exact ⟨rfl, by (repeat (first | exact Below.refl _ _ | (with_reducible refine Below.drew ?_) | (with_reducible refine Below.alloc ?_ (by (try simp); (try omega)) _) | (with_reducible refine Below.setCell ?_ (by (try simp); (try omega)) _) | (with_reducible refine Below.trans ?_ (Below.mono (by assumption) (by (try simp); (try omega))))))⟩

theorem up_facts {v : Int} (h : unOk v = true) : pkE (upC v) (upS v) = 0 ∧ pkW (upC v) (upS v) = v ∧ (0 ≤ upC v → 8 * upC v + upS v ≤ v ∧ v ≤ 8 * upC v + upS v ∧ 0 ≤ upS v ∧ upS v ≤ 7) := by
  have hh : pkE (unC v) (unS v) = 0 ∧ pkW (unC v) (unS v) = v := by simpa [unOk] using h
  have hc : upC v = unC v := by simp [upC, h]
  have hs : upS v = unS v := by simp [upS, h]
  rw [hc, hs]
  refine ⟨hh.1, hh.2, fun hp => ?_⟩
  unfold unC at hp ⊢; unfold unS
  by_cases hv : 2147483648 ≤ v
  · rw [if_pos hv] at hp; omega
  · rw [if_neg hv, if_neg hv]; omega

theorem back_walk (a b : Int) (ha : 0 ≤ a ∧ a < 4294967296) (hb : 0 ≤ b ∧ b < 4294967296) (w : World) :
    Calls Try.prog 4 #[.int .u32 a, .int .u32 b] w fun e w' => e = .returned (.bool true) ∧ Below w.heap.size w w' := by
  have HA := Lib.hid ha
  have HB := Lib.hid hb
  clear ha hb
  cases ho : unOk a
  · have O := Lib.hid ho
    clear ho
    go_enter Try.func4, Try.ntmps4
    go_wp2_with fail
    refine (unpack_any _ HA _).mono ?_; rintro e w1 ⟨rfl, hb1⟩; rw [O.out]; obtain ⟨hc1, hf1⟩ := bcell hb1; have hz1 := hb1.size; (try simp at hz1)
    go_wp2_with fail
    refine (runpack_any _ HA _).mono ?_; rintro e w2 ⟨rfl, hb2⟩; rw [O.out]; obtain ⟨hc2, hf2⟩ := bcell hb2; have hz2 := hb2.size; (try simp at hz2); have hz2a : w1.heap.size < w2.heap.size := (by omega)
    go_wp2_with fail
    refine (unpack_any _ HB _).mono ?_; rintro e w3 ⟨rfl, hb3⟩; obtain ⟨hc3, hf3⟩ := bcell hb3; have hz3 := hb3.size; (try simp at hz3); have hz3a : w1.heap.size < w3.heap.size := (by omega); have hz3b : w2.heap.size < w3.heap.size := (by omega)
    go_wp2_with fail
    all_goals first
      | ((with_reducible refine (works06 _).mono ?_); rintro e w5 ⟨rfl, hb5⟩; have hz5 := hb5.size; (try simp at hz5); go_wp2; go_ret; exact ⟨rfl, by (repeat (first | exact Below.refl _ _ | (with_reducible refine Below.drew ?_) | (with_reducible refine Below.alloc ?_ (by (try simp); (try omega)) _) | (with_reducible refine Below.setCell ?_ (by (try simp); (try omega)) _) | (with_reducible refine Below.trans ?_ (Below.mono (by assumption) (by (try simp); (try omega))))))⟩)
      | (exfalso; have G1 := F3.out ‹_›; have G2 := (up_facts ‹unOk b = true›).2.2 ‹_›; omega)
  · have F := up_facts ho
    have O := Lib.hid (And.intro ho (And.intro F.1 F.2.1))
    have F3 := Lib.hid F.2.2
    clear ho F
    go_enter Try.func4, Try.ntmps4
    go_wp2_with fail
    refine (unpack_any _ HA _).mono ?_; rintro e w1 ⟨rfl, hb1⟩; rw [O.out.1]; obtain ⟨hc1, hf1⟩ := bcell hb1; have hz1 := hb1.size; (try simp at hz1)
    go_wp2_with fail
    refine (runpack_any _ HA _).mono ?_; rintro e w2 ⟨rfl, hb2⟩; rw [O.out.1]; obtain ⟨hc2, hf2⟩ := bcell hb2; have hz2 := hb2.size; (try simp at hz2); have hz2a : w1.heap.size < w2.heap.size := (by omega)
    go_wp2_with fail
    refine (pack_any _ _ _).mono ?_; rintro e w3 ⟨rfl, hb3⟩; rw [O.out.2.1, O.out.2.2]; obtain ⟨hc3, hf3⟩ := bcell hb3; have hz3 := hb3.size; (try simp at hz3); have hz3a : w1.heap.size < w3.heap.size := (by omega); have hz3b : w2.heap.size < w3.heap.size := (by omega)
    go_wp2_with fail
    refine (unpack_any _ HB _).mono ?_; rintro e w4 ⟨rfl, hb4⟩; obtain ⟨hc4, hf4⟩ := bcell hb4; have hz4 := hb4.size; (try simp at hz4); have hz4a : w1.heap.size < w4.heap.size := (by omega); have hz4b : w2.heap.size < w4.heap.size := (by omega)
    go_wp2_with fail
    all_goals first
      | ((with_reducible refine (works06 _).mono ?_); rintro e w5 ⟨rfl, hb5⟩; have hz5 := hb5.size; (try simp at hz5); go_wp2; go_ret; exact ⟨rfl, by (repeat (first | exact Below.refl _ _ | (with_reducible refine Below.drew ?_) | (with_reducible refine Below.alloc ?_ (by (try simp); (try omega)) _) | (with_reducible refine Below.setCell ?_ (by (try simp); (try omega)) _) | (with_reducible refine Below.trans ?_ (Below.mono (by assumption) (by (try simp); (try omega))))))⟩)
      | (exfalso; have G1 := F3.out ‹_›; have G2 := (up_facts ‹unOk b = true›).2.2 ‹_›; omega)
end Go.Proofs.Ytbdfkgchliakfaa
