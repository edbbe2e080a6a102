/-
  The program's agenda and the document's, side by side.
-/
import Derived.Test.YtkonfogebepccaaDoorAgPlain
import Derived.Test.YtkonfogebepccaaDoorRAgenda
namespace Go.Proofs.YtkonfogebepccaaDoor
open Go.RowKit
set_option linter.unusedVariables false

/-- An agenda of the program's at A (ps), one of the document's at R (qs), made behind w; other blocks K that neither of them has. -/
structure AgS (w X : World) (A R : Nat) (K : List Nat) (ps qs : List (Int × Int)) (F G : List Nat) : Prop where
  a : AG X A ps F
  r : RAG X R qs G
  dj : ∀ b ∈ F, b ∉ G
  fa : ∀ b ∈ F, w.heap.size ≤ b
  fr : ∀ b ∈ G, w.heap.size ≤ b
  ka : ∀ b ∈ K, b < X.heap.size ∧ b ∉ F ∧ b ∉ G
  bel : Below w.heap.size w X
def AgSt (w X : World) (A R : Nat) (K : List Nat) (ps qs : List (Int × Int)) : Prop := ∃ F G, AgS w X A R K ps qs F G
section
variable {w X Y : World} {A R : Nat} {K : List Nat} {ps qs ps' : List (Int × Int)} {F G : List Nat}
theorem AgS.stepA (h : AgS w X A R K ps qs F G) (hA : ∃ F', AG Y A ps' F' ∧ ∀ b ∈ F', b ∈ F ∨ X.heap.size ≤ b) (hk : Kp F X Y) : AgSt w Y A R K ps' qs := by
  obtain ⟨F', h1, h2⟩ := hA
  have hz := h.bel.size
  refine ⟨F', G, h1, h.r.kp hk (fun b hb hf => h.dj b hf hb), fun b hb hg => ?_, fun b hb => ?_, h.fr, fun b hb => ⟨Nat.lt_of_lt_of_le (h.ka b hb).1 hk.size, fun hf => ?_, (h.ka b hb).2.2⟩, h.bel.trans (hk.below hz h.fa)⟩
  · rcases h2 b hb with h3 | h3
    · exact h.dj b h3 hg
    · have := h.r.lt b hg; omega
  · rcases h2 b hb with h3 | h3
    · exact h.fa b h3
    · omega
  · rcases h2 b hf with h3 | h3
    · exact (h.ka b hb).2.1 h3
    · have := (h.ka b hb).1; omega
theorem AgS.stepR (h : AgS w X A R K ps qs F G) (hA : ∃ F', RAG Y R ps' F' ∧ ∀ b ∈ F', b ∈ G ∨ X.heap.size ≤ b) (hk : Kp G X Y) : AgSt w Y A R K ps ps' := by
  obtain ⟨F', h1, h2⟩ := hA
  have hz := h.bel.size
  refine ⟨F, F', h.a.kp hk h.dj, h1, fun b hb hg => ?_, h.fa, fun b hb => ?_, fun b hb => ⟨Nat.lt_of_lt_of_le (h.ka b hb).1 hk.size, (h.ka b hb).2.1, fun hf => ?_⟩, h.bel.trans (hk.below hz h.fr)⟩
  · rcases h2 b hg with h3 | h3
    · exact h.dj b hb h3
    · have := h.a.lt b hb; omega
  · rcases h2 b hb with h3 | h3
    · exact h.fr b h3
    · omega
  · rcases h2 b hf with h3 | h3
    · exact (h.ka b hb).2.2 h3
    · have := (h.ka b hb).1; omega
theorem AgSt.below (h : AgSt w X A R K ps qs) (hb : Below X.heap.size X Y) : AgSt w Y A R K ps qs := by
  obtain ⟨F, G, h⟩ := h
  exact ⟨F, G, h.a.keep (fun b hm => hb.block b (h.a.lt b hm)), h.r.keep (fun b hm => hb.block b (h.r.lt b hm)), h.dj, h.fa, h.fr, fun b hm => ⟨Nat.lt_of_lt_of_le (h.ka b hm).1 hb.size, (h.ka b hm).2⟩, h.bel.trans (hb.mono h.bel.size)⟩
/-- A box laid anew is another block. -/
theorem AgSt.box (h : AgSt w X A R K ps qs) (o : Obj) : AgSt w (X.alloc o) A R (X.heap.size :: K) ps qs := by
  obtain ⟨F, G, h⟩ := h
  have hb : Below X.heap.size X (X.alloc o) := (Below.refl _ _).alloc (Nat.le_refl _) o
  refine ⟨F, G, h.a.keep (fun b hm => hb.block b (h.a.lt b hm)), h.r.keep (fun b hm => hb.block b (h.r.lt b hm)), h.dj, h.fa, h.fr, fun b hm => ?_, h.bel.trans (hb.mono h.bel.size)⟩
  rcases List.mem_cons.1 hm with rfl | hm
  · exact ⟨by simp, fun hf => absurd (h.a.lt _ hf) (by omega), fun hf => absurd (h.r.lt _ hf) (by omega)⟩
  · exact ⟨Nat.lt_of_lt_of_le (h.ka b hm).1 (by simp), (h.ka b hm).2⟩
theorem AgSt.less (h : AgSt w X A R K ps qs) {K' : List Nat} (hK : ∀ b ∈ K', b ∈ K) : AgSt w X A R K' ps qs := by
  obtain ⟨F, G, h⟩ := h
  exact ⟨F, G, h.a, h.r, h.dj, h.fa, h.fr, fun b hb => h.ka b (hK b hb), h.bel⟩
/-- A call on the program's one. -/
theorem AgSt.callA {f : FuncId} {args : Array Value} {E : Ending} (h : AgSt w X A R K ps qs)
    (H : ∀ F, AG X A ps F → Calls Tryd.prog f args X fun e w' => e = E ∧ (∃ F', AG w' A ps' F' ∧ ∀ b ∈ F', b ∈ F ∨ X.heap.size ≤ b) ∧ Kp F X w') :
    Calls Tryd.prog f args X fun e w' => e = E ∧ AgSt w w' A R K ps' qs ∧ ∀ b ∈ K, w'.heap[b]? = X.heap[b]? := by
  obtain ⟨F, G, h⟩ := h
  refine (H F h.a).mono ?_
  rintro e w' ⟨rfl, h1, h2⟩
  exact ⟨rfl, h.stepA h1 h2, fun b hb => h2.block b (h.ka b hb).1 (h.ka b hb).2.1⟩
theorem AgSt.callR {f : FuncId} {args : Array Value} {E : Ending} {qs' : List (Int × Int)} (h : AgSt w X A R K ps qs)
    (H : ∀ F, RAG X R qs F → Calls Tryd.prog f args X fun e w' => e = E ∧ (∃ F', RAG w' R qs' F' ∧ ∀ b ∈ F', b ∈ F ∨ X.heap.size ≤ b) ∧ Kp F X w') :
    Calls Tryd.prog f args X fun e w' => e = E ∧ AgSt w w' A R K ps qs' ∧ ∀ b ∈ K, w'.heap[b]? = X.heap[b]? := by
  obtain ⟨F, G, h⟩ := h
  refine (H G h.r).mono ?_
  rintro e w' ⟨rfl, h1, h2⟩
  exact ⟨rfl, h.stepR h1 h2, fun b hb => h2.block b (h.ka b hb).1 (h.ka b hb).2.2⟩
end
end Go.Proofs.YtkonfogebepccaaDoor
