import Derived.Test.YtgkmmlffnfpjaaaDoorUI2
namespace Go.Proofs.YtgkmmlffnfpjaaaDoor
open Go Go.RowKit

/-- the frame behind the assignment of a round's two values -/
def actAt (a : Act) (p0 p1 s0 s1 : Tmp) (x : Pr) : Act :=
  { tmps := (((a.tmps.setIfInBounds p0 (.int .i64 (x.a : Nat))).setIfInBounds p1 (.int .i32 (x.b : Nat))).setIfInBounds s0 (.int .i64 (x.a : Nat))).setIfInBounds s1 (.int .i32 (x.b : Nat)), defers := [] }

/-- a range over what utf.All gives -/
theorem range_all {n : Nat} (hn : 3 ≤ n) {g : Operand} {p0 p1 : Tmp} (s0 s1 : Tmp) {assign body : Code} {Q : Exit → Act → World → Prop} {a : Act} {w : World} {Bs n₀ : Nat} (hg : a.eval g = .func (.func 20) #[] #[.pointer (some ⟨Bs, 0, none⟩)]) {w0 : World} {cs : List Nat}
    (hseq : SeqStopsK Fence.wide (n - 1) Tryd.prog 20 #[.pointer (some ⟨Bs, 0, none⟩)] encPr (Below n₀) (fun ys => ys = pl 0 cs) (fun pre => pre <+: pl 0 cs) cs.length w0) (hn0 : n₀ ≤ w.heap.size) (hb0 : Below w0.heap.size w0 w)
    (I : List Pr → World → Prop) (Ix : Code → List Pr → World → Prop) (hI : OwnFrom w.heap.size I) (hIx : ∀ c, OwnFrom w.heap.size (Ix c)) (h0 : I [] w)
    (hassign : ∀ (l : Nat) (x : Pr) (W : World) (K : Act → World → Prop), K (actAt a p0 p1 s0 s1 x) W →
      assign.wpIn (Fence.wide.inRound l) (n - 1 - 1) Tryd.prog (Exit.then K (fun _ _ _ => False)) { tmps := (a.tmps.setIfInBounds p0 (.int .i64 (x.a : Nat))).setIfInBounds p1 (.int .i32 (x.b : Nat)), defers := [] } W)
    (hbody : ∀ (l : Nat) (pre : List Pr) (x : Pr) (W : World), I pre W → pre.length < cs.length → body.wpIn (Fence.wide.inRound l) (n - 1 - 1) Tryd.prog (ownPostK (Below n₀) I Ix (pre ++ [x]) W) (actAt a p0 p1 s0 s1 x) W)
    (hdone : ∀ (D : Nat) (W : World), w.heap.size ≤ D → I (pl 0 cs) W → W.heap[D]? = some (.deferred (some [])) → Q .normal { a with defers := { target := .collected D, args := #[] } :: a.defers } W)
    (hstop : ∀ (D : Nat) (c : Code) (pre : List Pr) (W : World), w.heap.size ≤ D → pre <+: pl 0 cs → Ix c pre W → W.heap[D]? = some (.deferred (some [])) → c.wpIn Fence.wide n Tryd.prog Q { a with defers := { target := .collected D, args := #[] } :: a.defers } W) :
    (Code.rangeFunc g #[p0, p1] assign body).wpIn Fence.wide n Tryd.prog Q a w :=
  wpIn_rangeFunc_ownF rfl (by omega) hg trivial (enters_of Tryd.func20 (by kernel_rfl) rfl) hseq belowK_t (belowK_b hn0) hb0 (fun _ => rfl) I Ix hI hIx h0 (actAt a p0 p1 s0 s1) (fun l x W K hK => by
    have e : (#[p0, p1].zip (encPr x)).foldl (fun t (p, v) => t.setIfInBounds p v) a.tmps = (a.tmps.setIfInBounds p0 (.int .i64 (x.a : Nat))).setIfInBounds p1 (.int .i32 (x.b : Nat)) := by simp [encPr]
    rw [e]
    exact hassign l x W K hK) hbody (fun D xs W h1 h2 h3 h4 => by subst h2; exact hdone D W h1 h3 h4) hstop
end Go.Proofs.YtgkmmlffnfpjaaaDoor
