/-
  The walk of skerrylaw04.do: an act on both.
-/
import Derived.Test.YtlopeflgleplfaaPair
namespace Go.Proofs.Ytlopeflgleplfaa
open Go.RowKit
/-- Both disks, a block box at k, and a row of bytes tw, apart from each other. -/
def DoQ (w0 : World) (base d r k : Nat) (box : Obj) (tw : Value) (l : List UInt8) (w : World) (s t : DS) : Prop :=
  PQ w0 w base d s r t (fun x => x = k ∨ tw.ownBlock = some x) ∧ w.heap[k]? = some box ∧ OwnB w base tw l
section
variable {w0 w w' : World} {base d r k : Nat} {box : Obj} {tw : Value} {l : List UInt8} {s s' t t' : DS}
theorem DoQ.step {x : Value} {e : Ending} (h : DoQ w0 base d r k box tw l w s t) (p : Step w0 w base d s' r t' (fun x => x = k ∨ tw.ownBlock = some x) x e w') : e = .returned x ∧ DoQ w0 base d r k box tw l w' s' t' := by
  obtain ⟨h1, h2, h3⟩ := h
  obtain ⟨p1, p2, p3, p4⟩ := p
  refine ⟨p1, p2, (p4 k (.inl rfl)).trans h2, ?_⟩
  obtain ⟨g1, g2 | ⟨g, cap, cur, e, hb, hg, hr⟩⟩ := h3
  · exact ⟨g1, .inl g2⟩
  · subst e
    exact ⟨g1, .inr ⟨g, cap, cur, rfl, hb, (p4 g (.inr rfl)).trans hg, hr⟩⟩
theorem DoQ.keep (h : DoQ w0 base d r k box tw l w s t) (hb : Below w.heap.size w w') : DoQ w0 base d r k box tw l w' s t :=
  ⟨h.1.keep hb, (hb.block k (Array.getElem?_eq_some_iff.1 h.2.1).1).trans h.2.1, h.2.2.below hb⟩
theorem DoQ.twin {A : Option Addr} {n c : Nat} (h : DoQ w0 base d r k box (.slice A n c) l w s t) (hl : l.length = n) : By w w.heap.size A n c l := by
  obtain ⟨A', c', e, hy⟩ := own_by h.2.2 hl
  injection e with e1 _ e3
  subst e1 e3
  exact hy
end
set_option maxRecDepth 100000 in
set_option maxHeartbeats 3200000 in
theorem do_any (w0 w : World) (base d r : Nat) (s : DS) (a : ActV) (ok : a.Ok) (B0 : Option Addr) (cB : Nat) (hyB : By w0 base B0 a.b.length cB a.b) (hl : a.b.length ≤ 2000) (h : PQ w0 w base d s r s (fun _ => False)) :
    Calls Try.prog 24 #[.pointer (some ⟨d, 0, none⟩), .pointer (some ⟨r, 0, none⟩), .agg #[.int .i64 a.what, .int .i64 a.n, .int .i64 a.keep, .slice B0 a.b.length cB]] w
      fun e w' => e = .returned (.bool true) ∧ ∃ s', PQ w0 w' base d s' r s' (fun _ => False) := by
  go_enter Try.func24, Try.ntmps24
  go_wp2_with fail
  obtain ⟨k, hk⟩ : ∃ k, w.heap.size = k := ⟨_, rfl⟩
  obtain ⟨w1, hw1⟩ : ∃ w1, w.alloc (.cells #[.int .i64 a.what, .int .i64 a.n, .int .i64 a.keep, .slice B0 a.b.length cB] 45) = w1 := ⟨_, rfl⟩
  have hbox : w1.heap[k]? = some (.cells #[.int .i64 a.what, .int .i64 a.n, .int .i64 a.keep, .slice B0 a.b.length cB] 45 (0, 0)) := by
    rw [← hw1, ← hk]; exact heap_alloc_new w _
  have q1 : PQ w0 w1 base d s r s (fun x => x = k) := h.more (by rw [← hw1]; exact (Below.refl _ _).alloc (Nat.le_refl _) _) fun x hx => .inr ⟨by omega, by rw [hx]; exact (Array.getElem?_eq_some_iff.1 hbox).1⟩
  rw [hw1]
  try rw [hk]
  clear hw1 h
  refine (Twin_any B0 _ cB a.b _ base (hyB.below q1.below (Nat.le_refl _)) (by omega)).mono ?_
  rintro e w2 ⟨v2, rfl, ho2, hb2⟩
  obtain ⟨A2, c2, rfl, hy2⟩ := own_by ho2 (n := a.b.length) rfl
  obtain ⟨tw, htw⟩ : ∃ tw, Value.slice A2 a.b.length c2 = tw := ⟨_, rfl⟩
  obtain ⟨box, hbx⟩ : ∃ box, Obj.cells #[.int .i64 a.what, .int .i64 a.n, .int .i64 a.keep, .slice B0 a.b.length cB] 45 (0, 0) = box := ⟨_, rfl⟩
  have q2 : DoQ w0 base d r k box (.slice A2 a.b.length c2) a.b w2 s s := by
    have hk1 := (Array.getElem?_eq_some_iff.1 hbox).1
    refine ⟨q1.more hb2 fun x hx => ?_, ((hb2.block k hk1).trans hbox).trans (by rw [hbx]), ho2.base (Nat.le_of_lt q1.size)⟩
    rcases hx with h | h
    · exact .inl h
    · refine .inr ?_
      have h2 := ho2.lt x h
      exact h2
  have Hcc : Hid (∀ w' s' t', DoQ w0 base d r k box (.slice A2 a.b.length c2) a.b w' s' t' → w'.cell? ⟨k, 0, none⟩ = some (.int .i64 a.what) ∧ w'.cell? ⟨k, 1, none⟩ = some (.int .i64 a.n) ∧ w'.cell? ⟨k, 2, none⟩ = some (.int .i64 a.keep) ∧ w'.cell? ⟨k, 3, none⟩ = some (.slice B0 a.b.length cB)) := fun w' s' t' h => by
    have h2 := h.2.1
    rw [← hbx] at h2
    exact ⟨cell_of_row _ _ _ _ _ _ h2, cell_of_row _ _ _ _ _ _ h2, cell_of_row _ _ _ _ _ _ h2, cell_of_row _ _ _ _ _ _ h2⟩
  obtain ⟨c0, c1, c2', c3⟩ := Hcc.out _ _ _ q2
  clear hbox hbx q1 ho2 hb2 htw
  go_wp2_with fail
  all_goals first
    | (refine (PQ.sync q2.1).mono ?_
       rintro e w3 p3
       obtain ⟨rfl, q3⟩ := q2.step p3
       clear p3
       go_wp2_with fail
       refine (PQ.rsync q3.1).mono ?_
       rintro e w4 p4
       obtain ⟨rfl, q4⟩ := q3.step p4
       clear p4
       obtain ⟨sx, hsx⟩ : ∃ sx, Hid (s.sync.2 = sx) := ⟨_, rfl⟩
       rw [hsx.out] at q4
       obtain ⟨_, _, _, c43⟩ := Hcc.out _ _ _ q4
       go_wp2_with fail)
    | (refine (PQ.trip _ _ q2.1 ok.n ok.keep).mono ?_
       rintro e w3 p3
       obtain ⟨rfl, q3⟩ := q2.step p3
       obtain ⟨_, c31, c32, _⟩ := Hcc.out _ _ _ q3
       clear p3
       go_wp2_with fail
       refine (PQ.rtrip _ _ q3.1 ok.n ok.keep).mono ?_
       rintro e w4 p4
       obtain ⟨rfl, q4⟩ := q3.step p4
       clear p4
       obtain ⟨sx, hsx⟩ : ∃ sx, Hid (s.setTrip a.n a.keep = sx) := ⟨_, rfl⟩
       rw [hsx.out] at q4
       obtain ⟨_, _, _, c43⟩ := Hcc.out _ _ _ q4
       go_wp2_with fail)
    | (refine (PQ.crash _ q2.1).mono ?_
       rintro e w3 p3
       obtain ⟨rfl, q3⟩ := q2.step p3
       obtain ⟨_, c31, c32, _⟩ := Hcc.out _ _ _ q3
       clear p3
       go_wp2_with fail
       refine (PQ.rcrash _ q3.1).mono ?_
       rintro e w4 p4
       obtain ⟨rfl, q4⟩ := q3.step p4
       clear p4
       obtain ⟨sx, hsx⟩ : ∃ sx, Hid (s.crash a.keep = sx) := ⟨_, rfl⟩
       rw [hsx.out] at q4
       obtain ⟨_, _, _, c43⟩ := Hcc.out _ _ _ q4
       go_wp2_with fail)
    | (refine (PQ.start q2.1).mono ?_
       rintro e w3 p3
       obtain ⟨rfl, q3⟩ := q2.step p3
       clear p3
       go_wp2_with fail
       refine (PQ.rstart q3.1).mono ?_
       rintro e w4 p4
       obtain ⟨rfl, q4⟩ := q3.step p4
       clear p4
       obtain ⟨sx, hsx⟩ : ∃ sx, Hid (s.start = sx) := ⟨_, rfl⟩
       rw [hsx.out] at q4
       obtain ⟨_, _, _, c43⟩ := Hcc.out _ _ _ q4
       go_wp2_with fail)
    | (have q2d := q2.keep (Below.drew (Below.refl _ _))
       obtain ⟨_, _, _, c2d⟩ := Hcc.out _ _ _ q2d
       go_region_held3 (fun w' => w'.cell? ⟨k, 3, none⟩ = some (.slice B0 a.b.length cB))
         ((first | assumption | exact (Hcc.out _ _ _ q3).2.2.2 | exact (Hcc.out _ _ _ q4).2.2.2))
         ((first
           | (go_at_call 21
              refine (PQ.replace A2 a.b.length c2 a.b q2d.1 (q2d.twin rfl) (by rintro _ p rfl; exact .inr rfl)).mono ?_
              rintro e w3 p3
              obtain ⟨rfl, q3⟩ := q2d.step p3
              clear p3)
           | (go_at_call 28
              refine (PQ.rreplace B0 a.b.length cB base a.b q3.1 (hyB.below q3.1.below (Nat.le_refl _)) (Nat.le_refl _) hl).mono ?_
              rintro e w4 p4
              obtain ⟨rfl, q4⟩ := q3.step p4
              clear p4)
           | (go_at_call 12
              refine (PQ.append A2 a.b.length c2 _ a.b q2d.1 (q2d.twin rfl)).mono ?_
              rintro e w3 p3
              obtain ⟨rfl, q3⟩ := q2d.step p3
              clear p3)
           | (go_at_call 32
              refine (PQ.rappend B0 a.b.length cB base a.b q3.1 (hyB.below q3.1.below (Nat.le_refl _)) (Nat.le_of_lt q3.1.size) hl).mono ?_
              rintro e w4 p4
              obtain ⟨rfl, q4⟩ := q3.step p4
              clear p4)))
       obtain ⟨_, _, _, c43⟩ := Hcc.out _ _ _ q4
       go_wp2_with fail)
  all_goals refine (Bytes_same A2 B0 _ _ _ _ a.b _ _ _ (q4.twin rfl) (hyB.below q4.1.below (Nat.le_refl _))).mono ?_
  all_goals rintro e w5 ⟨rfl, k5, rfl⟩
  all_goals have q5 := q4.keep (below_drewN (Below.refl _ _) k5)
  all_goals go_wp2_with fail
  all_goals refine (Spoil_any A2 _ c2 base a.b _ q5.2.2 rfl).mono ?_
  all_goals rintro e w6 ⟨rfl, hg6, _⟩
  all_goals have q6 := (q5.1.grown hg6 (fun x hx => .inr hx)).more (K' := fun _ => False) (Below.refl _ _) (fun _ h => h.elim)
  all_goals go_wp2_with fail
  all_goals go_ret
  all_goals exact ⟨rfl, _, q6⟩
end Go.Proofs.Ytlopeflgleplfaa
