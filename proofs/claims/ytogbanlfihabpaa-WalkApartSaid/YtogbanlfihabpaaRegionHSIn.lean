/-
  The law of RegionHS, in a round of a range over a function.
-/
import Derived.Test.YtogbanlfihabpaaRegionHS
import Derived.Test.YtogbanlfihabpaaRangeBox
import Derived.OrdersIn
namespace Go.Proofs.Ytogbanlfihabpaa
open Go

section
variable {P : Program} {md : Region.Mode} {S : World → Prop}
theorem oper_in {o : Oper} (hd : ∀ c, o.op ≠ .defer c) (l n : Nat) {a : Act} {w : World} {K : Act → World → Prop} {Q : Exit → Act → World → Prop} (h : o.wp P a w K Q) : o.wpIn (Fence.wide.inRound l) n P a w K Q := by
  unfold Oper.wpIn
  unfold Oper.wp at h
  refine ⟨fun _ _ => trivial, ?_⟩
  rw [Fence.inRound_round, Oper.semAt_some l _ _ hd]
  generalize (execOp a.eval o).run P w = r at *
  cases r with
  | ok x w' =>
    cases x <;> simp only [Oper.upon, Oper.uponIn] at h ⊢ <;>
      first
        | exact h
        | exact ⟨fun hh => by simp [Fence.wide] at hh, (CallsIn.inRound l (callsIn_wide.2 h)).mono (fun e w'' he => by cases e <;> exact he)⟩
        | exact ⟨fun hh => by simp [Fence.wide] at hh, fun c cs _ => let ⟨v, w', r, s⟩ := h c cs; ⟨v, w', r, stepsIn_wide.2 s⟩⟩
        | exact h.elim
  | halt x w' => cases x <;> simp only [Oper.upon, Oper.uponIn] at h ⊢ <;> exact h
def noDefer (l : List Oper) : Bool := l.all fun o => match o.op with
  | .defer _ => false
  | _ => true
theorem noDefer_at {l : List Oper} (h : noDefer l = true) {i : Nat} {o : Oper} (ho : l.toArray[i]? = some o) (c : Call) : o.op ≠ .defer c := fun e => by
  have hm : o ∈ l := List.mem_of_getElem? (by simpa using ho)
  have := List.all_eq_true.1 h o hm
  rw [e] at this
  simp at this
theorem any_in {l : List Oper} {Q : Exit → Act → World → Prop} (hd : noDefer l = true) (hout : ¬ LetsOut Q) (r n : Nat) : ∀ (f : Nat) (x : Array Bool) (a : Act) (w : World), wpAny P md l.toArray Q f x a w → wpAnyIn (Fence.wide.inRound r) n P md l.toArray Q f x a w
  | 0, x, a, w, h => h
  | f + 1, x, a, w, h => ⟨h.1, fun i hi => by
      have h2 := h.2 i hi
      unfold wpOp at h2
      unfold wpOpIn
      cases ho : l.toArray[i]? with
      | none => simp only [ho] at h2 ⊢; exact any_in hd hout r n f _ _ _ h2
      | some o =>
        simp only [ho] at h2 ⊢
        split
        · rename_i hw
          simp only [hw, if_true] at h2
          rcases h2 with h2 | h2
          · exact oper_in (noDefer_at hd ho) r n (Oper.wp_mono (fun a' w' h' => any_in hd hout r n f _ a' w' h') h2)
          · exact absurd h2.2 hout
        · rename_i hw
          simp only [hw] at h2
          exact ⟨fun _ _ => trivial, any_in hd hout r n f _ _ _ h2⟩⟩
theorem region_in {id : Nat} {Q : Exit → Act → World → Prop} {a : Act} {w : World} {l : List Oper} (hm : P.follows .mixedOrders = true) (hd : noDefer l = true) (hout : ¬ LetsOut Q) (r n : Nat)
    (h : wpAny P .any l.toArray Q l.length (Array.replicate l.length false) a w.drew) : (Code.region id l.toArray true).wpIn (Fence.wide.inRound r) n P Q a w := by
  refine wpIn_region_any hm ?_
  have := any_in hd hout r n _ _ _ _ h
  simpa using this
theorem region_hs_in {id : Nat} {Q : Exit → Act → World → Prop} {a : Act} {w : World} {l : List Oper} (n m : Nat) (S : World → Prop) (hm : P.follows .mixedOrders = true) (hd : noDefer l = true) (hB : hsOk .any l n m = true) (hout : ¬ LetsOut Q)
    (hQ : ∀ c a d v w, Q (.panic c) (Act.put a d v) w → Q (.panic c) a w) (hS : S w.drew) {r k : Nat}
    (h : wpHead P (l.take m).toArray S (fun a' => wpMid P (l.take m).toArray (tailH P l.toArray Q (l.drop m)) S (fun a w => wpList P l.toArray Q (l.drop m) a w) ((l.take m).drop n) a' w.drew) (l.take n) a) : (Code.region id l.toArray true).wpIn (Fence.wide.inRound r) k P Q a w := by
  simp only [hsOk, Bool.and_eq_true, decide_eq_true_eq] at hB
  obtain ⟨⟨⟨hH, hsel⟩, hnm⟩, hlex⟩ := hB
  have hml : m ≤ l.length := by
    simp only [headOk, Bool.and_eq_true, decide_eq_true_eq] at hH
    exact hH.1.1.1
  have hsz : (l.take m).toArray.size = m := by simp; omega
  have htn : (l.take n).length = n := by simp; omega
  have hmid : ((l.take m).drop n).length = m - n := by simp; omega
  refine region_in hm hd hout r k ?_
  have hany := head_any (g := m - n) (ops := (l.take m).toArray) (Q := tailH P l.toArray Q (l.drop m)) (w := w.drew) hsel (fun c a d v w h => hQ c a d v w h) hS (fun x a' hx hk => by
    rw [hsz, show m - (m - n) = n by omega] at hx
    have := mid_any (md := .any) (S := S) (ops := (l.take m).toArray) (Q := tailH P l.toArray Q (l.drop m)) ((l.take m).drop n) n x a' w.drew (fun j hj => by simp [List.getElem?_drop]) (by rw [hmid]; exact hx) hk
    rwa [hmid] at this) (l.take n) 0 (Array.replicate m false) a (fun j hj => by
      rw [htn] at hj
      simp [hj, show j < m by omega]) (by rw [htn, hsz]; omega) (by rw [htn]; exact hlex) h
  rw [htn, show n + (m - n) = m by omega] at hany
  have hsame : Same m l.length (Array.replicate m false) (Array.replicate l.length false) := by
    refine ⟨by simp, by simp, fun i hi => ?_, fun i h1 h2 => ?_⟩
    · simp [hi, show i < l.length by omega]
    · simp [h2]
  have := head_split hH m _ _ a w.drew hsame (wpAny_of_held _ _ _ _ hany)
  rw [show m + (l.length - m) = l.length by omega] at this
  exact this
end
end Go.Proofs.Ytogbanlfihabpaa
