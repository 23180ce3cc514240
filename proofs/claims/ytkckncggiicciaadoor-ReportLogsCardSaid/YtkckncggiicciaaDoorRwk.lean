/-
  The walk of skerrylaw28.wakes.
-/
import Derived.Test.YtkckncggiicciaaDoorRrepl
namespace Go.Proofs.YtkckncggiicciaaDoor
open Go.RowKit
set_option maxRecDepth 100000
/-- A struct's load behind a guard that says yes. -/
theorem wpList_load_rowG {P : Program} {ops : Array Oper} {rest : List Oper} {o : Oper} {a : Act} {w : World} {Q : Exit → Act → World → Prop} (hw : Region.wanted o (yielded ops a.tmps) = true) (ty : TypeId) (x : Operand) (ho : o.op = .load ty x)
    (g : Nat) (hx : a.eval x = .pointer (some ⟨g, 0, none⟩)) (t : TypeId) (cs : Array Value) (fr : Nat × Nat) (d : TypeDesc) (hg : w.heap[g]? = some (.cells cs t fr))
    (hu : P.underlying ty = some d) (hd : (match d with | .struct _ | .array _ _ => true | _ => false) = true) (hi : (P.info? ty).map (·.size) = some cs.size)
    (h : wpList P ops Q rest (a.put o.dst (.agg cs)) w) : wpList P ops Q (o :: rest) a w :=
  wpList_step fun K hK => by
    rw [if_pos hw]
    exact wp_load_row ty x ho g hx t cs fr d hg hu hd hi (hK _ _ h)
theorem itoa_0 : Lib.itoa 0 = [48] := by simp [Lib.itoa, Lib.decDigits]
theorem itoa_3 : Lib.itoa 3 = [51] := by simp [Lib.itoa, Lib.decDigits]
/-- A replica of number 3, all else nought. -/
def raft3 : List Value := [.int .i64 3, .int .i64 0, .int .i64 0, .int .i64 0, .int .i64 0, .int .i64 0, .int .i64 0, .int .i64 0, .int .i64 0, .slice none 0 0, .slice none 0 0, .int .i64 0, .int .i64 0, .int .i64 0, .int .i64 0, .int .i64 0, .int .i64 0, .int .i64 0,
  .int .i64 0, .int .i64 0, .int .i64 0, .int .i64 0, .int .i64 0, .int .i64 0, .int .i64 0, .int .i64 0, .int .i64 0, .int .i64 0, .int .i64 0, .int .i64 0, .int .i64 0, .int .i64 0, .int .i64 0, .int .i64 0, .int .i64 0, .int .i64 0, .int .i64 0, .int .i64 0, .int .i64 0, .slice none 0 0]
theorem raft3_len : raft3.length = 40 := rfl
theorem raft3_one : ∀ v ∈ raft3, v.oneCell' = true := by
  intro v hv
  have : raft3.all (·.oneCell') = true := rfl
  exact List.all_eq_true.1 this v hv
theorem raft3_at : RfAt raft3 3 0 0 0 0 0 0 (.slice none 0 0) := ⟨rfl, raft3_one, rfl, rfl, rfl, rfl, rfl, rfl, rfl, rfl⟩
def line3 : ByteArray := ⟨#[110, 111, 100, 101, 32, 51, 32, 114, 111, 108, 101, 32, 48, 32, 116, 101, 114, 109, 32, 48, 32, 108, 101, 97, 100, 32, 48, 32, 99, 111, 109, 109, 105, 116, 32, 48, 32, 98, 97, 115, 101, 32, 48, 32, 108, 97, 115, 116, 32, 48]⟩
theorem repL_3 : sV (repL 3 0 0 0 0 0 (lastT 0 0)) = .string line3 := by
  have e : lastT 0 0 = [48] := by
    unfold lastT
    rw [if_pos (by decide)]
    exact itoa_0
  rw [e]
  unfold repL
  rw [itoa_0, itoa_3]
  rfl
theorem meanV_nil : meanV [] = 9221120237041090561 := rfl
set_option maxHeartbeats 3200000 in
theorem rwakes_any (w : World) (hI : ItAt w) : Calls Tryd.prog 9 #[] w fun e w' => e = .returned (.bool true) ∧ Below w.heap.size w w' := by
  have HL : Hid (Calls Tryd.prog 7 #[.slice none 0 0] w fun e w' => (∃ A c, e = .returned (.tuple #[.slice A 0 c, .float .f64 9221120237041090561])) ∧ Below w.heap.size w w') := by
    have := RLags_any none 0 0 [] [] [] [] w (Rd.nil _ _ _) rfl rfl rfl rfl (fun i x h => by simp at h) (fun _ h => by cases h) (fun _ h => by cases h) (fun _ i c h => by simp at h) (by omega) hI
    refine this.mono ?_
    intro e w' h
    unfold LagsPost at h
    rw [if_pos (show okC [] = true from rfl)] at h
    obtain ⟨⟨v, he, ho⟩, hb⟩ := h
    obtain ⟨A, c, hv, _⟩ := ownS_rd ho (n := 0) rfl
    rw [hv] at he
    exact ⟨⟨A, c, he⟩, hb⟩
  have HR : Hid (∀ w', Below w.heap.size w w' → Calls Tryd.prog 13 #[.agg raft3.toArray] w' fun e w'' => e = .returned (.string line3) ∧ Below w'.heap.size w' w'') := fun w' hb => by
    have := Replica_any raft3 3 0 0 0 0 0 0 none 0 0 w' raft3_at ⟨by omega, by omega, fun h => by omega⟩ (by unfold In64; omega) (by unfold In64; omega) (by unfold In64; omega) (by unfold In64; omega) (by unfold In64; omega) (by unfold In64; omega) (hI.below hb)
    rw [repL_3] at this
    exact this
  have hnn : isNan 9221120237041090561 = true := by decide
  have hne := cmp_ne_self 9221120237041090561
  rw [hnn] at hne
  have Hsz : Hid ((Tryd.prog.info? 33).map (·.size) = some raft3.length) := size40
  have Hsz2 : Hid ((Tryd.prog.info? 33).map (·.size) = some raft3.toArray.size) := size40
  clear hI hnn
  go_enter Tryd.func9, Tryd.ntmps9
  go_wp2_with fail
  refine HL.out.mono ?_
  rintro e w1 ⟨⟨A, c, rfl⟩, hb1⟩
  go_wp2_with (first
    | (refine wpList_store_local rfl 33 (.tmp 3) _ rfl raft3 rfl rfl Hsz.out rfl raft3_one ?_
       intro w5 q5 hb5 hz5
       have Hq5 := Lib.hid q5
       have hbn : Below w.heap.size w w5 := hb1.trans (hb5.mono hb1.size)
       clear q5 hz5)
    | (refine wpList_load_rowG rfl 33 (.tmp 3) rfl w1.heap.size rfl 33 raft3.toArray (0, 0) _ Hq5.out Tryd.underlying33 rfl Hsz2.out ?_)
    | (go_at_call 13
       refine (HR.out _ hbn).mono ?_
       rintro e w6 ⟨rfl, hb6⟩))
  go_ret
  exact ⟨ret_bool (by rw [ByteArray.toList_eq]; rfl), hbn.trans (hb6.mono hbn.size)⟩
end Go.Proofs.YtkckncggiicciaaDoor
