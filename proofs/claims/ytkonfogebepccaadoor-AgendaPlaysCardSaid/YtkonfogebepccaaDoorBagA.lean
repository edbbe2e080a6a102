/-
  skeinref00.Bag, made at a world of which nothing is touched: one more list; are they apart?
-/
import Derived.Test.YtkonfogebepccaaDoorBag
namespace Go.Proofs.YtkonfogebepccaaDoor
open Go.RowKit
attribute [local go_sem] cell_set
set_option maxRecDepth 100000
set_option linter.unusedVariables false

/-- A bag at block G in world X, made behind world b. -/
def BagA (b X : World) (G : Nat) (li lp lw lq : List Value) : Prop :=
  ∃ si sp sw sq, BagW X G si sp sw sq li lp lw lq ∧ b.heap.size ≤ G ∧ (∀ k, (k ∈ ownB si ∨ k ∈ ownB sp ∨ k ∈ ownB sw ∨ k ∈ ownB sq) → b.heap.size ≤ k) ∧ Below b.heap.size b X
theorem BagA.new (b : World) : BagA b (b.alloc (.cells #[.slice none 0 0, .slice none 0 0, .slice none 0 0, .slice none 0 0, .slice none 0 0, .slice none 0 0, .slice none 0 0, .slice none 0 0, .slice none 0 0, .slice none 0 0, .slice none 0 0, .slice none 0 0] 57)) b.heap.size [] [] [] [] :=
  ⟨_, _, _, _, BagW.new b, Nat.le_refl _, by simp [ownB], (Below.refl _ _).alloc (Nat.le_refl _) _⟩
theorem BagA.below {b X : World} {G : Nat} {li lp lw lq : List Value} (h : BagA b X G li lp lw lq) : Below b.heap.size b X := by obtain ⟨_, _, _, _, _, _, _, h⟩ := h; exact h
theorem BagA.later {b X X' : World} {G : Nat} {li lp lw lq : List Value} (h : BagA b X G li lp lw lq) (hb : Below X.heap.size X X') : BagA b X' G li lp lw lq := by
  obtain ⟨si, sp, sw, sq, h1, h2, h3, h4⟩ := h
  exact ⟨si, sp, sw, sq, h1.below hb, h2, h3, h4.trans (hb.mono h4.size)⟩
theorem BagA.drew {b X : World} {G : Nat} {li lp lw lq : List Value} (h : BagA b X G li lp lw lq) : BagA b X.drew G li lp lw lq := h.later ((Below.refl _ _).drew)
theorem bag_pairs {b w : World} {G : Nat} {li lp lw lq : List Value} (A : Option Addr) (n cp : Nat) (HB : Hid (BagA b w G li lp lw lq)) (hl : lq.length < 300) :
    Calls Tryd.prog 17 #[.pointer (some ⟨G, 0, none⟩), .slice A n cp] w fun e w' => e = .returned (.tuple #[]) ∧ BagA b w' G li lp lw (lq ++ [.slice A n cp]) ∧ ∀ (k : Nat) (cur : Array Value) (t : TypeId), w.heap[k]? = some (Obj.cells cur t (0, 0)) → t ≠ 57 → t ≠ 27 → w'.heap[k]? = some (Obj.cells cur t (0, 0)) := by
  obtain ⟨si, sp, sw, sq, h1, h2, h3, h4⟩ := HB.out
  refine (add_q A n cp (Lib.hid h1) hl).mono ?_
  rintro e w' ⟨rfl, s', r1, r2, r3⟩
  refine ⟨rfl, ⟨si, sp, sw, s', r1, h2, fun k hk => ?_, ?_⟩, fun k cur t hk ht1 ht2 => (r2.block k (heap_lt hk) (fun hm => ?_)).trans hk⟩
  · rcases hk with hk | hk | hk | hk
    · exact h3 k (.inl hk)
    · exact h3 k (.inr (.inl hk))
    · exact h3 k (.inr (.inr (.inl hk)))
    · rcases r3 k hk with hh | hh
      · exact h3 k (.inr (.inr (.inr hh)))
      · have := h4.size; omega
  · refine h4.trans (r2.below h4.size (fun k hk => ?_))
    rcases List.mem_cons.1 hk with rfl | hk
    · exact h2
    · exact h3 k (.inr (.inr (.inr hk)))
  · rcases List.mem_cons.1 hm with rfl | hm
    · exact ty_no hk h1.blk ht1
    · obtain ⟨c9, h9⟩ := row_block h1.rq k hm
      exact ty_no hk h9 ht2
/-- Lists of a kind: slices, their lengths. -/
def vec (l : List Value) : Nat → Value := fun i => l.getD i (.slice none 0 0)
def lenV : Value → Nat
  | .slice _ n _ => n
  | _ => 0
theorem range_vec (l : List Value) : (List.range l.length).map (vec l) = l := by
  refine List.ext_getElem (by simp) fun i h1 h2 => ?_
  simp [vec, h2]
/-- Lists of a kind that are apart: each a row of its own. -/
structure Own (w : World) (e : TypeId) (size : Nat) (l : List Value) : Prop where
  row : ∀ u ∈ l, ∃ xs, Row w e size u (lenV u) xs
  dj : l.Pairwise fun u u' => ∀ b ∈ ownB u, b ∉ ownB u'
  le : ∀ u ∈ l, lenV u ≤ 1000000
  n : l.length ≤ 300
theorem Own.nil (w : World) (e : TypeId) (size : Nat) : Own w e size [] := ⟨by simp, List.Pairwise.nil, by simp, by simp⟩
theorem Own.cons {w : World} {e : TypeId} {size : Nat} {l : List Value} {A : Option Addr} {n cp : Nat} {xs : List Value} (h : Own w e size l) (hr : Row w e size (.slice A n cp) n xs) (hd : ∀ u ∈ l, ∀ b ∈ ownB (.slice A n cp), b ∉ ownB u) (hn : n ≤ 1000000) (hl : l.length + 1 ≤ 300) : Own w e size (.slice A n cp :: l) := by
  refine ⟨fun u hu => ?_, List.Pairwise.cons hd h.dj, fun u hu => ?_, by simpa using hl⟩
  · rcases List.mem_cons.1 hu with rfl | hu
    · exact ⟨xs, hr⟩
    · exact h.row u hu
  · rcases List.mem_cons.1 hu with rfl | hu
    · exact hn
    · exact h.le u hu
theorem Own.ls {w : World} {e : TypeId} {size : Nat} {l : List Value} (h : Own w e size l) : LsOk w e size l.length (vec l) (fun i => lenV (vec l i)) := by
  have hm : ∀ i, i < l.length → vec l i ∈ l := fun i hi => by simp [vec, List.getD_eq_getElem?_getD, hi]
  have ha : ∀ i (hi : i < l.length), vec l i = l[i] := fun i hi => by simp [vec, List.getD_eq_getElem?_getD, hi]
  refine ⟨fun i hi => h.row _ (hm i hi), fun i j hi hj hij b hb hb' => ?_, fun i hi => h.le _ (hm i hi), h.n⟩
  rw [ha i hi] at hb
  rw [ha j hj] at hb'
  have hp := List.pairwise_iff_getElem.1 h.dj
  rcases Nat.lt_or_gt_of_ne hij with h1 | h1
  · exact hp i j hi hj h1 b hb hb'
  · exact hp j i hj hi h1 b hb' hb
def ownL (l : List Value) : List Nat := l.flatMap ownB
theorem blks_vec {l : List Value} {b : Nat} (h : b ∈ blks l.length (vec l)) : b ∈ ownL l := by
  obtain ⟨i, hi, hb⟩ := blks_mem.1 h
  refine List.mem_flatMap.2 ⟨vec l i, by simp [vec, List.getD_eq_getElem?_getD, hi], hb⟩
theorem bag_apartA {b w : World} {G : Nat} {li lp lw lq : List Value} (HB : Hid (BagA b w G li lp lw lq)) (Hi : Hid (Own w 3 1 li)) (Hp : Hid (Own w 83 2 lp)) (Hw : Hid (Own w 108 4 lw)) (Hq : Hid (Own w 35 2 lq)) :
    Calls Tryd.prog 18 #[.pointer (some ⟨G, 0, none⟩)] w fun e w' => e = .returned (.bool true) ∧ Kp (ownL li ++ (ownL lp ++ (ownL lw ++ ownL lq))) w w' := by
  obtain ⟨si, sp, sw, sq, h1, h2, h3, h4⟩ := HB.out
  refine (bag_apart li.length (vec li) (fun i => lenV (vec li i)) lp.length (vec lp) (fun i => lenV (vec lp i)) lw.length (vec lw) (fun i => lenV (vec lw i)) lq.length (vec lq) (fun i => lenV (vec lq i)) (Lib.hid (by rw [range_vec, range_vec, range_vec, range_vec]; exact h1)) (Lib.hid Hi.out.ls) (Lib.hid Hp.out.ls) (Lib.hid Hw.out.ls) (Lib.hid Hq.out.ls)).mono ?_
  rintro e w' ⟨rfl, hk⟩
  refine ⟨rfl, hk.mono (fun k hk => ?_)⟩
  simp only [List.mem_append] at hk ⊢
  rcases hk with hk | hk | hk | hk
  · exact .inl (blks_vec hk)
  · exact .inr (.inl (blks_vec hk))
  · exact .inr (.inr (.inl (blks_vec hk)))
  · exact .inr (.inr (.inr (blks_vec hk)))
end Go.Proofs.YtkonfogebepccaaDoor
