/-
  The walk of ReportLags.
-/
import Derived.Test.YtkckncggiicciaaDoorRwk
namespace Go.Proofs.YtkckncggiicciaaDoor
open Go.RowKit
set_option maxRecDepth 100000
/-! ### Plain -/
theorem topL_ge (c0 : Int) (cs : List Int) : c0 ≤ topL c0 cs ∧ ∀ c ∈ cs, c ≤ topL c0 cs := by
  rw [← List.reverse_reverse cs]
  induction cs.reverse with
  | nil => exact ⟨Int.le_refl _, fun c h => by simp at h⟩
  | cons x r ih =>
    rw [List.reverse_cons, topL_snoc]
    refine ⟨by have := ih.1; omega, fun c h => ?_⟩
    rw [List.mem_append] at h
    rcases h with h | h
    · have := ih.2 c h; omega
    · simp at h; omega
def minL (M : Int) (l : List Nat) : Int := l.foldl (fun (a : Int) (k : Nat) => min a (k : Int)) M
theorem minL_snoc (M : Int) (l : List Nat) (k : Nat) : minL M (l ++ [k]) = min (minL M l) (k : Int) := by simp [minL]
theorem minL_low_r (M : Int) (h : 0 ≤ M) : ∀ r : List Nat, 0 ≤ minL M r.reverse
  | [] => h
  | x :: r => by
    have := minL_low_r M h r
    rw [List.reverse_cons, minL_snoc]
    omega
theorem minL_mem_r (M : Int) (h : 0 ≤ M) : ∀ r : List Nat, 0 ∈ r → minL M r.reverse = 0
  | [], h0 => by simp at h0
  | x :: r, h0 => by
    have hr := minL_low_r M h r
    rw [List.reverse_cons, minL_snoc]
    rcases List.mem_cons.1 h0 with h1 | h1
    · omega
    · have := minL_mem_r M h r h1
      omega
theorem minL_mem (M : Int) (l : List Nat) (h : 0 ≤ M) (h0 : 0 ∈ l) : minL M l = 0 := by
  have := minL_mem_r M h l.reverse (by simpa using h0)
  rwa [List.reverse_reverse] at this
/-- A replica of a number and a commit, all else nought. -/
def mkR (id commit : Int) : List Value := [.int .i64 id, .int .i64 0, .int .i64 0, .int .i64 0, .int .i64 0, .int .i64 0, .int .i64 0, .int .i64 0, .int .i64 0, .slice none 0 0, .slice none 0 0, .int .i64 commit, .int .i64 0, .int .i64 0, .int .i64 0, .int .i64 0, .int .i64 0, .int .i64 0,
  .int .i64 0, .int .i64 0, .int .i64 0, .int .i64 0, .int .i64 0, .int .i64 0, .int .i64 0, .int .i64 0, .int .i64 0, .int .i64 0, .int .i64 0, .int .i64 0, .int .i64 0, .int .i64 0, .int .i64 0, .int .i64 0, .int .i64 0, .int .i64 0, .int .i64 0, .int .i64 0, .int .i64 0, .slice none 0 0]
theorem mkR_one (id commit : Int) : ∀ v ∈ mkR id commit, v.oneCell' = true := by
  intro v hv
  unfold mkR at hv
  simp only [List.mem_cons, List.not_mem_nil, or_false] at hv
  rcases hv with h | h | h | h | h | h | h | h | h | h | h | h | h | h | h | h | h | h | h | h | h | h | h | h | h | h | h | h | h | h | h | h | h | h | h | h | h | h | h | h <;> rw [h] <;> rfl
theorem mkR_ok (id commit : Int) : RfOk (mkR id commit) id commit := ⟨rfl, mkR_one id commit, rfl, rfl⟩
def idsL (n : Nat) : List Int := (List.range n).map fun (i : Nat) => (i : Int) % 7
theorem idsL_at {n i : Nat} (h : i < n) : (idsL n)[i]? = some ((i : Int) % 7) := by
  unfold idsL
  simp [h]
def raftsL (cs : List Int) (n : Nat) : List (List Value) := (List.range n).map fun (i : Nat) => mkR ((i : Int) % 7) (cs.getD i 0)
theorem raftsL_succ (cs : List Int) (n : Nat) : raftsL cs (n + 1) = raftsL cs n ++ [mkR ((n : Int) % 7) (cs.getD n 0)] := by
  unfold raftsL
  rw [List.range_succ, List.map_append]
  rfl
theorem raftsL_len (cs : List Int) (n : Nat) : (raftsL cs n).length = n := by simp [raftsL]
theorem raftsL_at {cs : List Int} {n i : Nat} {x : List Value} (h : (raftsL cs n)[i]? = some x) : i < n ∧ x = mkR ((i : Int) % 7) (cs.getD i 0) := by
  unfold raftsL at h
  rw [List.getElem?_map] at h
  by_cases hi : i < n
  · rw [List.getElem?_range hi] at h
    simp at h
    exact ⟨hi, h.symm⟩
  · rw [List.getElem?_eq_none (by simpa using hi)] at h
    cases h
/-! ### A row of replicas of the call's own -/
def zeroR : Value := .agg (mkR 0 0).toArray
theorem info_raft : (Tryd.prog.info? 33).map (fun i => (i.zero, i.size, i.bytes)) = some (some zeroR, 40, 368) := by kernel_rfl
def OwnR (w : World) (base : Nat) (v : Value) (xss : List (List Value)) : Prop := w.ownsRow base 33 40 v xss.length xss.flatten
theorem ownR_nil (w : World) (base : Nat) : OwnR w base (.slice none 0 0) [] := ⟨rfl, .inl ⟨rfl, rfl⟩⟩
theorem rd_struct (w : World) (x : List Value) (e : TypeId) : Rd (w.alloc (.cells x.toArray e)) (w.heap.size + 1) x.length (some ⟨w.heap.size, 0, none⟩) 1 1 x := by
  refine ⟨by omega, Nat.le_refl _, by decide, fun _ => ⟨w.heap.size, 0, rfl, by omega, fun j y hy => ?_⟩⟩
  rw [Nat.zero_add, cell_of_row _ _ _ _ _ _ (heap_alloc_new w _)]
  simpa using hy
theorem wpList_appR {w : World} {ops : Array Oper} {rest : List Oper} {o : Oper} {a : Act} {Q : Exit → Act → World → Prop} (hgd : o.guard = none) (s x : Operand)
    (ho : o.op = .call { callee := .builtin .append, args := #[s, x], argTypes := #[23, 23] })
    (base : Nat) (v : Value) (xss : List (List Value)) (hs : a.eval s = v) (hown : OwnR w base v xss)
    (B g : Nat) (r : List Value) (hx : a.eval x = .slice (some ⟨g, 0, none⟩) 1 1) (_hl : r.length = 40) (hr : Rd w B 40 (some ⟨g, 0, none⟩) 1 1 r) (h1 : ∀ u ∈ r, u.oneCell' = true)
    (hlim : xss.length ≤ 100000) (hbase : base ≤ w.heap.size)
    (h : ∀ v' w', OwnR w' base v' (xss ++ [r]) → w.grownBy w' v.ownBlock → wpList Tryd.prog ops Q rest (a.put o.dst v') w') : wpList Tryd.prog ops Q (o :: rest) a w := by
  obtain ⟨i0, hi, hz0, hz1, hz2⟩ := info_parts info_raft
  refine wpList_plain hgd fun _ hK => wp_appAt s x _ ho base 33 i0 zeroR 40 368 Tryd.underlying23 hi hz0 hz1 hz2 rfl (by omega) v xss.length xss.flatten hs hown B _ 1 1 r hx hr h1 (by simp only [maxLen]; omega) (by omega) hbase ?_
  intro v' w' q1 q2 _ _
  refine hK _ _ (h v' w' ?_ q2)
  unfold OwnR
  rw [List.length_append, List.flatten_append, List.flatten_singleton]
  exact q1
end Go.Proofs.YtkckncggiicciaaDoor
