/-
  A net that is looked at by package walk, in memory; what the walk over its cells keeps.
-/
import Derived.Test.YtogbanlfihabpaaBase
import Derived.Test.YtogbanlfihabpaaAlikeMem
import Derived.Test.YtogbanlfihabpaaBagPlain
import Derived.Test.YtogbanlfihabpaaRef03C
import Derived.Test.YtogbanlfihabpaaSamePlain
import Derived.Deep.LoopGhost
import Derived.Test.YtogbanlfihabpaaRangeOwn
import Derived.Test.YtogbanlfihabpaaWinI
import Derived.Test.YtogbanlfihabpaaNetIs
/-
  Contract of skeinref11.Net.Walk, of a net that is looked at.
-/
/-
  What is left of a code from a region on; frames by look-ups.
-/
namespace Go.Proofs.Ytogbanlfihabpaa
open Go.RowKit
set_option maxRecDepth 100000

def leadQ : Code → Option Nat
  | .region id _ _ => some id
  | .seq a _ => leadQ a
  | _ => none
/-- What is left of a code from region n on. -/
def tailQ (n : Nat) : Code → Option Code
  | .region id o d => if id = n then some (.region id o d) else none
  | .seq a b => if leadQ a = some n then some (.seq a b) else (tailQ n a).or (tailQ n b)
  | .cond _ a b => (tailQ n a).or (tailQ n b)
  | .block _ a => tailQ n a
  | .loop a => tailQ n a
  | .scope a => tailQ n a
  | .rangeFunc _ _ a b => (tailQ n a).or (tailQ n b)
  | _ => none
theorem list_of_range (l : List Value) (d : Value) : l = (List.range l.length).map fun i => (l[i]?).getD d := by
  refine List.ext_getElem (by simp) fun i h1 h2 => ?_
  simp [h1]
/-- What slots of a frame hold. -/
def Sl (a : Act) : List (Nat × Value) → Prop
  | [] => True
  | (i, v) :: r => a.tmps[i]? = some v ∧ Sl a r
def Us (U : Nat → Value) : List (Nat × Value) → Prop
  | [] => True
  | (i, v) :: r => U i = v ∧ Us U r
structure FrN (n : Nat) (ds : List Deferred) (L : List (Nat × Value)) (a : Act) : Prop where
  sz : a.tmps.size = n
  df : a.defers = ds
  sl : Sl a L
theorem sl_us {a : Act} {U : Nat → Value} (h : ∀ i v, a.tmps[i]? = some v → U i = v) : ∀ L, Sl a L → Us U L
  | [], _ => trivial
  | (i, v) :: r, hs => ⟨h i v hs.1, sl_us h r hs.2⟩
theorem FrN.open_ {n : Nat} {ds : List Deferred} {L : List (Nat × Value)} {a : Act} (h : FrN n ds L a) : ∃ U : Nat → Value, a = { tmps := ((List.range n).map U).toArray, defers := ds } ∧ Us U L := by
  obtain ⟨⟨l⟩, df⟩ := a
  obtain ⟨sz, rfl, sl⟩ := h
  have e := list_of_range l undef
  obtain ⟨U, hU⟩ : ∃ U : Nat → Value, (fun i => (l[i]?).getD undef) = U := ⟨_, rfl⟩
  have g : ∀ i v, ((⟨⟨l⟩, df⟩ : Act)).tmps[i]? = some v → U i = v := fun i v h => by
    have h' : l[i]? = some v := by simpa using h
    rw [← hU]; simp [h']
  simp only [List.size_toArray] at sz
  rw [sz, hU] at e
  exact ⟨U, by rw [e], sl_us g L sl⟩
/-- Where the walk stands ahead of a region. -/
theorem at_seq {P : Program} {Q : Exit → Act → World → Prop} {a : Act} {w : World} (n : Nat) {l : Array Oper} {d : Bool} {c : Code} (h : (Code.seq (.region n l d) c).wp P Q a w) : (Code.seq (.region n l d) c).wp P Q a w := h
theorem at_seq2 {P : Program} {Q : Exit → Act → World → Prop} {a : Act} {w : World} (n : Nat) {l : Array Oper} {d : Bool} {c c2 : Code} (h : (Code.seq (Code.seq (.region n l d) c) c2).wp P Q a w) : (Code.seq (Code.seq (.region n l d) c) c2).wp P Q a w := h
theorem at_seq3 {P : Program} {Q : Exit → Act → World → Prop} {a : Act} {w : World} (n : Nat) {l : Array Oper} {d : Bool} {c c2 c3 : Code} (h : (Code.seq (Code.seq (Code.seq (.region n l d) c) c2) c3).wp P Q a w) : (Code.seq (Code.seq (Code.seq (.region n l d) c) c2) c3).wp P Q a w := h
end Go.Proofs.Ytogbanlfihabpaa
namespace Go.Proofs.Ytogbanlfihabpaa
open Go.RowKit
attribute [local go_sem] cell_set
set_option maxRecDepth 100000
set_option linter.unusedVariables false

/-- The cells that have been found. -/
def seenB (n : Nat) (l : List Int) : List Value := (List.range n).map fun (c : Nat) => .bool (decide ((c : Int) ∈ l))
theorem seenB_nil (n : Nat) : seenB n [] = List.replicate n (.bool false) := by
  refine List.ext_getElem (by simp [seenB]) fun i h1 h2 => ?_
  simp [seenB]
theorem seenB_at {n c : Nat} (l : List Int) (hc : c < n) : (seenB n l)[c]? = some (.bool (decide ((c : Int) ∈ l))) := by simp [seenB, hc]
theorem seenB_snoc {n c : Nat} (l : List Int) : seenB n (l ++ [(c : Int)]) = (seenB n l).set c (.bool true) := by
  refine List.ext_getElem (by simp [seenB]) fun i h1 h2 => ?_
  simp only [seenB, List.getElem_map, List.getElem_range, List.getElem_set]
  by_cases e : c = i
  · subst e; simp
  · rw [if_neg e]
    have : (i : Int) ≠ (c : Int) := by omega
    simp [this]
theorem ty_no2 {w : World} {b : Nat} {c c' : Array Value} {t t' : TypeId} (h : w.heap[b]? = some (.cells c t (0, 0))) (h' : w.heap[b]? = some (.cells c' t' (0, 0))) (hne : t ≠ t') : False := by
  rw [h] at h'; injection h' with h'; injection h' with _ ht; exact hne ht
section
variable {w X : World} {B g n M : Nat} {V1 V2 V3 : Option Addr} {c1 c2 c3 : Nat} {v : Value} {l s : List Int}
end
end Go.Proofs.Ytogbanlfihabpaa
namespace Go.Proofs.Ytogbanlfihabpaa
open Go.RowKit
set_option maxRecDepth 100000
set_option linter.unusedVariables false

def webQ (P m : Nat) (A VA : Option Addr) (L : List (ByteArray × Int)) (cells : List Int) : List Nat := P :: m :: ((if L.length = 0 then [] else ablk A) ++ ablkL VA cells)
/-- A web at block P, its map at m. -/
structure WebS (X : World) (P m : Nat) (A : Option Addr) (cap : Nat) (L : List (ByteArray × Int)) (VA VB : Option Addr) (ca cb : Nat) (cells : List Int) (f : Nat) (W : List (Pt × Pt)) : Prop where
  blk : X.heap[P]? = some (.cells #[.slice VA cells.length ca, .int .i64 (f : Int), .slice VB W.length cb, .slice A L.length cap, .map (some m)] 66 (0, 0))
  mp : MP encPt X m (fun p => (lnk W p).map encPt)
  c : IntsRd X VA cells
  a : AgRd X A L
section
variable {X Y : World} {P m cap ca cb f : Nat} {A VA VB : Option Addr} {L : List (ByteArray × Int)} {cells : List Int} {W : List (Pt × Pt)}
theorem WebS.lt (h : WebS X P m A cap L VA VB ca cb cells f W) : ∀ b ∈ webQ P m A VA L cells, b < X.heap.size := by
  intro b hb
  simp only [webQ, List.mem_cons, List.mem_append] at hb
  rcases hb with rfl | rfl | hb | hb
  · exact heap_lt h.blk
  · exact h.mp.lt
  · split at hb
    · cases hb
    · obtain ⟨b', off, rfl, hlt, _⟩ := h.a 0 (by omega)
      simp [ablk] at hb; subst hb; exact hlt
  · unfold ablkL at hb
    split at hb
    · cases hb
    · obtain ⟨b', off, rfl, hlt, _⟩ := h.c 0 (by omega)
      simp [ablk] at hb; subst hb; exact hlt
theorem WebS.keep (h : WebS X P m A cap L VA VB ca cb cells f W) (hk : ∀ b ∈ webQ P m A VA L cells, Y.heap[b]? = X.heap[b]?) (hz : X.heap.size ≤ Y.heap.size) : WebS Y P m A cap L VA VB ca cb cells f W := by
  have hkq : KQ (webQ P m A VA L cells) X Y := ⟨hz, hk⟩
  refine ⟨(hk P (by simp [webQ])).trans h.blk, h.mp.keep (hk m (by simp [webQ])), h.c.kq hkq (fun b hb => by simp [webQ, hb]), fun i hi => ?_⟩
  obtain ⟨b, off, rfl, hlt, h0, h1⟩ := h.a i hi
  have hbq : b ∈ webQ P m (some ⟨b, off, none⟩) VA L cells := by
    simp only [webQ, List.mem_cons, List.mem_append]
    right; right; left
    rw [if_neg (by omega)]; simp [ablk]
  exact ⟨b, off, rfl, Nat.lt_of_lt_of_le hlt hz, (hkq.cell (p := ⟨b, off + i * 2, none⟩) hbq).trans h0, (hkq.cell (p := ⟨b, off + i * 2 + 1, none⟩) hbq).trans h1⟩
theorem WebS.below (h : WebS X P m A cap L VA VB ca cb cells f W) (hb : Below X.heap.size X Y) : WebS Y P m A cap L VA VB ca cb cells f W := h.keep (fun b hm => hb.block b (h.lt b hm)) hb.size
theorem WebS.kp {F : List Nat} (h : WebS X P m A cap L VA VB ca cb cells f W) (hk : Kp F X Y) (hF : ∀ b ∈ webQ P m A VA L cells, b ∉ F) : WebS Y P m A cap L VA VB ca cb cells f W := h.keep (fun b hm => hk.block b (h.lt b hm) (hF b hm)) hk.size
theorem WebS.fld (h : WebS X P m A cap L VA VB ca cb cells f W) : X.cell? ⟨P, 0, none⟩ = some (.slice VA cells.length ca) ∧ X.cell? ⟨P, 3, none⟩ = some (.slice A L.length cap) ∧ X.cell? ⟨P, 4, none⟩ = some (.map (some m)) ∧ P < X.heap.size :=
  ⟨by simp [World.cell?, h.blk], by simp [World.cell?, h.blk], by simp [World.cell?, h.blk], heap_lt h.blk⟩
/-- A look-up of a port of the net. -/
theorem WebS.look {pn : Int → Nat} (h : WebS X P m A cap L VA VB ca cb cells f W) (hok : NetOk pn cells f W) {p : Pt} (hp : isPt pn cells f p = true) :
    (Instr.lookup 64 (.map (some m)) (encPt p) false).run Try.prog X = .ok (encPt (lkM W p)) X := by
  have := h.mp.lookup kport Try.underlying64 zport p false
  simp only [Bool.false_eq_true, if_false] at this
  rw [this]
  obtain ⟨q, hq, _⟩ := hok.lnk hp
  simp [lkM, hq]
end
def encI (x : Int) : Array Value := #[.int .i64 x]

/-- What the iterator keeps: kj were given, kq are cut off the queue, fl are found. -/
structure ItS (J : List Int → List Nat → World → Prop) (W0 : World) (D0 O : List Nat) (b2 P m : Nat) (A : Option Addr) (cap : Nat) (L : List (ByteArray × Int)) (VA VB : Option Addr) (ca cb : Nat) (cells : List Int) (f : Nat) (W : List (Pt × Pt)) (g n : Nat) (D : List Nat) (fl : List Int) (kj kq : Nat) (v : Value) (X : World) : Prop where
  j : J (fl.take kj) D X
  web : WebS X P m A cap L VA VB ca cb cells f W
  bw : X.heap[b2]? = some (.cells #[.pointer (some ⟨P, 0, none⟩)] 58 (0, 0))
  sn : Row X 4 1 (.slice (some ⟨g, 0, none⟩) n n) n (seenB n fl)
  q : WinI X 3 v (fl.drop kq)
  gw : W0.heap.size ≤ g ∧ g ∉ D
  qw : ∀ b ∈ ownB v, W0.heap.size ≤ b ∧ b ∉ D
  ww : ∀ b ∈ b2 :: webQ P m A VA L cells, b < W0.heap.size ∧ b ∉ D
  gr : Gr D0 W0 D
  kp : Kp (O ++ D0) W0 X
section
variable {J : List Int → List Nat → World → Prop} {W0 X Y : World} {D0 O D D' : List Nat} {b2 P m cap ca cb f g n : Nat} {A VA VB : Option Addr} {L : List (ByteArray × Int)} {cells : List Int} {W : List (Pt × Pt)} {fl : List Int} {kj kq : Nat} {v v' : Value}
theorem ItS.yield (h : ItS J W0 D0 O b2 P m A cap L VA VB ca cb cells f W g n D fl kj kq v X) {kj' : Nat} (hJ : J (fl.take kj') D' Y) (hG : Gr D X D') (hK : Kp D X Y) : ItS J W0 D0 O b2 P m A cap L VA VB ca cb cells f W g n D' fl kj' kq v Y := by
  have hz := h.kp.size
  have hgl : g < X.heap.size := h.sn.lt g (by simp [ownB])
  refine ⟨hJ, h.web.kp hK (fun b hb => (h.ww b (by simp [hb])).2), (hK.block b2 (heap_lt h.bw) (h.ww b2 (by simp)).2).trans h.bw, h.sn.kp hK (fun b hb => by simp [ownB] at hb; subst hb; exact h.gw.2), h.q.keep (fun b hb => hK.block b (h.q.lt b hb) (h.qw b hb).2), ⟨h.gw.1, fun hd => ?_⟩, fun b hb => ⟨(h.qw b hb).1, fun hd => ?_⟩, fun b hb => ⟨(h.ww b hb).1, fun hd => ?_⟩, h.gr.trans hG hz, h.kp.trans hK (fun b hb => ?_)⟩
  · rcases hG g hd with h1 | h1
    · exact h.gw.2 h1
    · omega
  · rcases hG b hd with h1 | h1
    · exact (h.qw b hb).2 h1
    · have := h.q.lt b hb; omega
  · rcases hG b hd with h1 | h1
    · exact (h.ww b hb).2 h1
    · have := (h.ww b hb).1; omega
  · rcases h.gr b hb with h1 | h1
    · exact .inl (List.mem_append_right _ h1)
    · exact .inr h1
theorem ItS.alloc (h : ItS J W0 D0 O b2 P m A cap L VA VB ca cb cells f W g n D fl kj kq v X) (hJ : Stab J) (o : Obj) : ItS J W0 D0 O b2 P m A cap L VA VB ca cb cells f W g n D fl kj kq v (X.alloc o) := by
  have hb : Below X.heap.size X (X.alloc o) := (Below.refl _ _).alloc (Nat.le_refl _) o
  exact ⟨hJ.keep _ _ _ _ h.j (fun b hm => hb.block b (hJ.lt _ _ _ h.j b hm)) hb.size, h.web.below hb, (hb.block _ (heap_lt h.bw)).trans h.bw, h.sn.keep (fun b hm => hb.block b (h.sn.lt b hm)), h.q.below hb, h.gw, h.qw, h.ww, h.gr, h.kp.thenBelow hb⟩
theorem ItS.draw (h : ItS J W0 D0 O b2 P m A cap L VA VB ca cb cells f W g n D fl kj kq v X) (hJ : Stab J) (k : Nat) : ItS J W0 D0 O b2 P m A cap L VA VB ca cb cells f W g n D fl kj kq v (X.drewN k) := by
  have hb : Below X.heap.size X (X.drewN k) := below_drewN (Below.refl _ _) _
  exact ⟨hJ.keep _ _ _ _ h.j (fun b hm => hb.block b (hJ.lt _ _ _ h.j b hm)) hb.size, h.web.below hb, (hb.block _ (heap_lt h.bw)).trans h.bw, h.sn.keep (fun b hm => hb.block b (h.sn.lt b hm)), h.q.below hb, h.gw, h.qw, h.ww, h.gr, h.kp.thenBelow hb⟩
theorem ItS.gq (h : ItS J W0 D0 O b2 P m A cap L VA VB ca cb cells f W g n D fl kj kq v X) : g ∉ ownB v := fun hb => by
  obtain ⟨c, h1⟩ := h.q.type g hb
  obtain ⟨c2, h2⟩ := row_block h.sn g (by simp [ownB])
  exact ty_no2 h1 h2 (by decide)
theorem ItS.push (h : ItS J W0 D0 O b2 P m A cap L VA VB ca cb cells f W g n D fl kj kq v X) (hJ : Stab J) {d : Nat} {o : Obj} {Y : World} (hkj : kj ≤ fl.length) (hkq : kq ≤ fl.length)
    (r : WinI Y 3 v' (fl.drop kq ++ [(d : Int)])) (k : Kp (ownB v) ((X.setCell ⟨g, d, none⟩ (.bool true)).alloc o) Y) (ho : ownB v' = ownB v ∨ ownB v' = [((X.setCell ⟨g, d, none⟩ (.bool true)).alloc o).heap.size]) :
    ItS J W0 D0 O b2 P m A cap L VA VB ca cb cells f W g n D (fl ++ [(d : Int)]) kj kq v' Y := by
  have hz := h.kp.size
  have hgl : g < X.heap.size := h.sn.lt g (by simp [ownB])
  have hk : Kp (g :: ownB v) X Y := ((((Kp.refl [g] X).setCell (p := ⟨g, d, none⟩) (.inl (by simp)) (.bool true)).alloc o).mono (by simp)).trans k (fun b hb => .inl (by simp [hb]))
  have hDF : ∀ b ∈ D, b ∉ g :: ownB v := fun b hb hm => by
    rcases List.mem_cons.1 hm with rfl | hm
    · exact h.gw.2 hb
    · exact (h.qw b hm).2 hb
  have hWF : ∀ b ∈ b2 :: webQ P m A VA L cells, b ∉ g :: ownB v := fun b hb hm => by
    have := (h.ww b hb).1
    rcases List.mem_cons.1 hm with rfl | hm
    · have := h.gw.1; omega
    · have := (h.qw b hm).1; omega
  have hsz : ((X.setCell ⟨g, d, none⟩ (.bool true)).alloc o).heap.size = X.heap.size + 1 := by simp
  refine ⟨?_, h.web.kp hk (fun b hb => hWF b (by simp [hb])), (hk.block b2 (heap_lt h.bw) (hWF b2 (by simp))).trans h.bw, ?_, ?_, h.gw, fun b hb => ?_, h.ww, h.gr, h.kp.trans hk (fun b hb => ?_)⟩
  · rw [List.take_append_of_le_length hkj]
    exact hJ.keep _ _ _ _ h.j (fun b hb => hk.block b (hJ.lt _ _ _ h.j b hb) (hDF b hb)) hk.size
  · rw [seenB_snoc]
    have h1 := (h.sn.set d (.bool true)).alloc o
    exact h1.kp k (fun b hb => by simp [ownB] at hb; subst hb; exact h.gq)
  · rw [List.drop_append_of_le_length hkq]; exact r
  · rcases ho with e | e <;> rw [e] at hb
    · exact h.qw b hb
    · rw [hsz] at hb; simp at hb; subst hb
      exact ⟨by omega, fun hd => by have := hJ.lt _ _ _ h.j _ hd; omega⟩
  · right
    rcases List.mem_cons.1 hb with rfl | hb
    · exact h.gw.1
    · exact (h.qw b hb).1
theorem ItS.cut (h : ItS J W0 D0 O b2 P m A cap L VA VB ca cb cells f W g n D fl kj kq v X) {kq' : Nat} (hq : WinI X 3 v' (fl.drop kq')) (ho : ownB v' = ownB v) : ItS J W0 D0 O b2 P m A cap L VA VB ca cb cells f W g n D fl kj kq' v' X :=
  ⟨h.j, h.web, h.bw, h.sn, hq, h.gw, by rw [ho]; exact h.qw, h.ww, h.gr, h.kp⟩
theorem ItS.seen (h : ItS J W0 D0 O b2 P m A cap L VA VB ca cb cells f W g n D fl kj kq v X) {c : Nat} (hc : c < n) : g < X.heap.size ∧ X.cell? ⟨g, c, none⟩ = some (.bool (decide ((c : Int) ∈ fl))) ∧ X.frozen? ⟨g, c, none⟩ = false :=
  ⟨h.sn.lt g (by simp [ownB]), (h.sn.cellAt c (by omega)).trans (seenB_at fl hc), h.sn.frozenAt c⟩
theorem ItS.bwc (h : ItS J W0 D0 O b2 P m A cap L VA VB ca cb cells f W g n D fl kj kq v X) : X.cell? ⟨b2, 0, none⟩ = some (.pointer (some ⟨P, 0, none⟩)) ∧ b2 < X.heap.size := ⟨by simp [World.cell?, h.bw], heap_lt h.bw⟩
end
end Go.Proofs.Ytogbanlfihabpaa
