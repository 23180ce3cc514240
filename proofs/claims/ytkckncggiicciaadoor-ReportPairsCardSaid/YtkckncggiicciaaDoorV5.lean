/-
  Joined texts, part 5: the lemmas and walks that the row stands on.
-/
import Derived.Test.YtkckncggiicciaaDoorV4
import Derived.Test.YtkckncggiicciaaDoorV3
import Derived.Test.YtkckncggiicciaaDoorRows
import Derived.Test.YtkckncggiicciaaDoorV1
import Derived.ProofKit
import Derived.OpenShut
import Derived.Laws.FloatArith
import Derived.LaidMore
import Derived.Stop.Joined
import Derived.Stop.LaidErr
import Derived.Lib.LaidTab
import Derived.Test.YtkckncggiicciaaDoorV2
/-
  ReportPairs: the walk of Do.
-/
namespace Go.Proofs.YtkckncggiicciaaDoor
open Go.RowKit
set_option maxRecDepth 100000
/-- A region that makes two values: for every outcome of its own, the same. -/
theorem region_two {P : Program} {c : Code} {Q : Exit → Act → World → Prop} {a : Act} {w : World} (u : Act → Act) (i j : Nat) (ty : TypeId) (G : Array Value)
    (h : ∀ R : Exit → Act → World → Prop, (∀ (b9 b10 : Nat) a' w', a' = ((u a).put (some i) (.pointer (some ⟨b9, 0, none⟩))).put (some j) (.pointer (some ⟨b10, 0, none⟩)) → b9 ≠ b10 → w.heap.size ≤ b9 → w.heap.size ≤ b10 → Below w.heap.size w w' →
      w'.heap[b9]? = some (.cells G ty (0, 0)) → w'.heap[b10]? = some (.cells G ty (0, 0)) → R .normal a' w') → c.wp P R a w)
    (h2 : ∀ (b9 b10 : Nat) w', b9 ≠ b10 → w.heap.size ≤ b9 → w.heap.size ≤ b10 → Below w.heap.size w w' → w'.heap[b9]? = some (.cells G ty (0, 0)) → w'.heap[b10]? = some (.cells G ty (0, 0)) →
      Q .normal (((u a).put (some i) (.pointer (some ⟨b9, 0, none⟩))).put (some j) (.pointer (some ⟨b10, 0, none⟩))) w') : c.wp P Q a w := by
  refine h Q ?_
  rintro b9 b10 a' w' rfl h3 h4 h5 h6 h7 h8
  exact h2 b9 b10 w' h3 h4 h5 h6 h7 h8
theorem canon_maxR {a b : Nat} (ha : canon a = a) (hb : canon b = b) : canon (maxV a b) = maxV a b := by
  unfold maxV
  split
  · decide
  · split <;> assumption
theorem two_row0 {w : World} {n : Nat} (o o' : Obj) (hz : w.heap.size = n) : ((w.alloc o).alloc o').drew.heap[n]? = some o := by
  subst hz
  show ((w.alloc o).alloc o').heap[w.heap.size]? = some o
  rw [Below.heap_alloc _ _ _ (by simp)]
  exact heap_alloc_new w _
theorem two_row1 {w : World} {n : Nat} (o o' : Obj) (hz : w.heap.size = n) : ((w.alloc o).alloc o').drew.heap[n + 1]? = some o' := by
  subst hz
  exact heap_alloc2_new w _ _
theorem two_drew (w : World) (o o' : Obj) : Below w.heap.size w ((w.alloc o).alloc o').drew := below_drewN (two_below w o o') 1
/-- A store of a whole row, the world behind it by its facts. -/
theorem wpList_store_rowV {P : Program} {ops : Array Oper} {rest : List Oper} {o : Oper} {a : Act} {w : World} {Q : Exit → Act → World → Prop} (hgd : o.guard = none) (ty : TypeId) (x y : Operand) (ho : o.op = .store ty x y)
    (g : Nat) (cells : Array Value) (hx : a.eval x = .pointer (some ⟨g, 0, none⟩)) (hy : a.eval y = .agg cells)
    (t : TypeId) (old : Array Value) (hg : w.heap[g]? = some (.cells old t (0, 0))) (hi : (P.info? ty).map (·.size) = some cells.size)
    (hold : old.size = cells.size) (h1 : cells.all (·.oneCell') = true)
    (h : ∀ wz, wz.heap[g]? = some (.cells cells t (0, 0)) → (∀ j, j ≠ g → wz.heap[j]? = w.heap[j]?) → (∀ B (v : World), B ≤ g → Below B v w → Below B v wz) → wpList P ops Q rest (a.put o.dst undef) wz) : wpList P ops Q (o :: rest) a w :=
  wpList_store_row hgd ty x y ho g cells hx hy t old hg hi hold h1 (h _ (setRow_heap _ _ _ _ _ _ hg) (fun _ hk => setRow_ne _ _ _ _ hk) (fun _ _ hB hb => below_setRow hb hB _))
def DoPost (w : World) (e : Ending) (w' : World) : Prop := (∃ (v : Value) (l : List (ByteArray × Va)) (code : Int) (r : Va), e = .returned (.tuple #[v, .agg #[.int .i64 code, .int .i64 r.k, .float .f64 r.x, .string r.s]]) ∧ OwnP w' w.heap.size v l ∧ RightP l ∧ VaS r) ∧ Below w.heap.size w w'
set_option maxHeartbeats 12800000 in
theorem Do_any (A : Option Addr) (n c : Nat) (cm : Cm) (ps : List (ByteArray × Va)) (w : World) (hy : PrRows w w.heap.size A n c ps) (hl : ps.length = n) (hR : RightP ps) (hc : cm.Ok) :
    Calls Tryd.prog 77 #[.slice A n c, .agg cm.cells.toArray] w (DoPost w) := by
  have h32 : n ≤ 32 := by rw [← hl]; exact hR.few
  obtain ⟨k, key, ⟨ok, ox, os⟩, ⟨vk, vx, vs⟩⟩ := cm
  obtain ⟨W2, hW2⟩ : ∃ W2, (w.alloc (.cells #[.int .i64 k, .string key, .int .i64 ok, .float .f64 ox, .string os, .int .i64 vk, .float .f64 vx, .string vs] 60)).alloc (.cells #[.int .i64 0, .int .i64 0, .float .f64 0, .string ⟨#[]⟩] 81) = W2 := ⟨_, rfl⟩
  have hob : Below w.heap.size w W2 := by rw [← hW2]; exact two_below _ _ _
  have hz2 : W2.heap.size = w.heap.size + 2 := by rw [← hW2]; simp
  have hr0 : W2.heap[w.heap.size]? = some (.cells #[.int .i64 k, .string key, .int .i64 ok, .float .f64 ox, .string os, .int .i64 vk, .float .f64 vx, .string vs] 60 (0, 0)) := by
    rw [← hW2, Below.heap_alloc _ _ _ (by simp)]
    exact heap_alloc_new w _
  have hr1 : W2.heap[w.heap.size + 1]? = some (.cells #[.int .i64 0, .int .i64 0, .float .f64 0, .string ⟨#[]⟩] 81 (0, 0)) := by
    rw [← hW2]
    exact heap_alloc2_new w _ _
  have Hc : Hid (∀ w', Below W2.heap.size W2 w' → w'.cell? ⟨w.heap.size, 0, none⟩ = some (.int .i64 k) ∧ w'.cell? ⟨w.heap.size, 1, none⟩ = some (.string key) ∧ w'.cell? ⟨w.heap.size, 2, none⟩ = some (.int .i64 ok) ∧ w'.cell? ⟨w.heap.size, 3, none⟩ = some (.float .f64 ox) ∧ w'.cell? ⟨w.heap.size, 4, none⟩ = some (.string os) ∧ w'.cell? ⟨w.heap.size, 5, none⟩ = some (.int .i64 vk) ∧ w'.cell? ⟨w.heap.size, 6, none⟩ = some (.float .f64 vx) ∧ w'.cell? ⟨w.heap.size, 7, none⟩ = some (.string vs)) := fun w' hb => by
    have q := (hb.block w.heap.size (by omega)).trans hr0
    exact ⟨cell_of_row _ _ _ _ _ _ q, cell_of_row _ _ _ _ _ _ q, cell_of_row _ _ _ _ _ _ q, cell_of_row _ _ _ _ _ _ q, cell_of_row _ _ _ _ _ _ q, cell_of_row _ _ _ _ _ _ q, cell_of_row _ _ _ _ _ _ q, cell_of_row _ _ _ _ _ _ q⟩
  have HRr : Hid (∀ w', Below W2.heap.size W2 w' → w'.heap[w.heap.size + 1]? = some (.cells #[.int .i64 0, .int .i64 0, .float .f64 0, .string ⟨#[]⟩] 81 (0, 0))) := fun w' hb => (hb.block _ (by omega)).trans hr1
  have Hup : Hid (∀ w', Below W2.heap.size W2 w' → Below w.heap.size w w') := fun w' hb => hob.trans (hb.mono (by omega))
  have HFin : Hid (∀ (wz : World) (v : Value) (l : List (ByteArray × Va)) (code : Int) (r : Va) (cs : Array Value), Below W2.heap.size W2 wz → OwnP wz W2.heap.size v l → RightP l → VaS r → DoPost w (.returned (.tuple #[v, .agg #[.int .i64 code, .int .i64 r.k, .float .f64 r.x, .string r.s]])) (wz.setRow (w.heap.size + 1) cs)) := fun wz v l code r cs hb ho hl hr => by
    refine ⟨⟨v, l, code, r, rfl, own_base (own_keep ho fun g h1 h2 => ?_) (by omega), hl, hr⟩, below_setRow (hob.trans (hb.mono (by omega))) (by omega) _⟩
    exact setRow_ne _ _ _ _ (by omega)
  have HTw : Hid (Calls Tryd.prog 98 #[.slice A n c] W2 (TwinPPost ps W2)) := TwinPairs_any A n c ps W2 ((Rd.below hy hob (Nat.le_refl _)).mono hob.size) hl (by omega)
  have HCm : Hid (∀ w', Calls Tryd.prog 96 #[.agg (Cm.cells ⟨k, key, ⟨ok, ox, os⟩, ⟨vk, vx, vs⟩⟩).toArray] w' (CmdPost ⟨k, key, ⟨ok, ox, os⟩, ⟨vk, vx, vs⟩⟩ w')) := fun w' => RCmd_any _ w' hc
  have HPs : Hid (∀ w', Below W2.heap.size W2 w' → Calls Tryd.prog 97 #[.slice A n c] w' fun e w'' => e = .returned (.bool true) ∧ Below w'.heap.size w' w'') := fun w' hb => RPairsOk_any A n c ps w' ((Rd.below hy (Hup.out _ hb) (Nat.le_refl _)).mono (Hup.out _ hb).size) hl hR
  have HGt : Hid (∀ w', Below W2.heap.size W2 w' → Calls Tryd.prog 99 #[.slice A n c, .string key] w' (GetPost w')) := fun w' hb => Get_any A n c key ps w' ((Rd.below hy (Hup.out _ hb) (Nat.le_refl _)).mono (Hup.out _ hb).size) hl hR
  have HSt : Hid (∀ (v : Va) w', (v.k ≠ 0 → PairOk (key, v)) → Below W2.heap.size W2 w' → Calls Tryd.prog 101 #[.slice A n c, .string key, .agg #[.int .i64 v.k, .float .f64 v.x, .string v.s]] w' (SetPost n w')) := fun v w' hv hb => Set_any A n c key v ps w' ((Rd.below hy (Hup.out _ hb) (Nat.le_refl _)).mono (Hup.out _ hb).size) hl hR hv
  have HOk := Lib.hid hc
  have HRp := Lib.hid hR
  obtain ⟨cc, hcc⟩ : ∃ cc : Cm, cc = ⟨k, key, ⟨ok, ox, os⟩, ⟨vk, vx, vs⟩⟩ := ⟨_, rfl⟩
  have Hcc := Lib.hid hcc
  obtain ⟨J, hJ⟩ : ∃ J, DoPost w = J := ⟨_, rfl⟩
  rw [hJ] at HFin ⊢
  unfold Cm.cells at HCm ⊢
  dsimp only at HCm ⊢
  rw [← hcc] at HCm
  have HW2 := Lib.hid hW2
  have Hz2 := Lib.hid hz2
  have hbc : Below W2.heap.size W2 W2 := Below.refl _ _
  clear hW2 hz2 hJ hy hl hR hc hr0 hr1 hob hcc
  have hst := run_store_float
  go_enter Tryd.func77, Tryd.ntmps77
  go_wp2_with fail
  rw [HW2.out]
  refine HTw.out.mono ?_
  rintro e w3 ⟨⟨v6, rfl, ho6⟩, hb3⟩
  have Ho6 := Lib.hid ho6
  obtain ⟨y0, y1, y2, y3, y4, y5, y6, y7⟩ := Hc.out _ hb3
  clear ho6 HTw hbc
  go_wp2_with fail
  refine (HCm.out _).mono ?_
  rintro e w4 ⟨⟨nn, rfl, hn⟩, hb4⟩
  have hbq := bstep hb3 hb4
  have Hn := Lib.hid hn
  have Ho64 : Hid (OwnP w4 W2.heap.size v6 ps) := own_below Ho6.out hb4
  clear y0 y1 y2 y3 y4 y5 y6 y7 hn hb4 hb3 Ho6 HCm
  rcases Decidable.em (nn = 0) with hn0 | hn0
  case inr =>
    have e1 : (nn == 0) = false := by simpa using hn0
    have e2 : (nn != 0) = true := by simpa using hn0
    have Hr := Lib.hid (HRr.out _ hbq)
    clear hn0
    go_wp2_with (refine wpList_store_row rfl 81 (.tmp 5) (.tmp 27) rfl (w.heap.size + 1) #[.int .i64 nn, .int .i64 0, .float .f64 0, .string ⟨#[]⟩] rfl rfl 81 #[.int .i64 0, .int .i64 0, .float .f64 0, .string ⟨#[]⟩] Hr.out size4r rfl (reply_one _ _ _ _) ?_)
    refine bodyPost_ret (results_rep Tryd.results77 _ _ (w.heap.size + 1) _ _ _ _ _ rfl rfl (setRow_heap _ _ _ _ _ _ Hr.out)) rfl ?_
    exact HFin.out w4 v6 ps nn ⟨0, 0, ⟨#[]⟩⟩ _ hbq Ho64.out HRp.out vas_zero
  case inl =>
    subst hn0
    have hcR := Hn.out (by first | rfl | trivial)
    have HcR := Lib.hid hcR
    clear hcR Hn
    go_wp2_with fail
    refine (HPs.out _ hbq).mono ?_
    rintro e w5 ⟨rfl, hb5⟩
    have hbq5 := bstep hbq hb5
    have Ho65 : Hid (OwnP w5 W2.heap.size v6 ps) := own_below Ho64.out hb5
    obtain ⟨y0, y1, y2, y3, y4, y5, y6, y7⟩ := Hc.out _ hbq5
    clear Ho64 hb5 hbq
    go_wp2_with fail
    refine (HGt.out _ hbq5).mono ?_
    rintro e w6 ⟨⟨⟨gk0, gx, gs⟩, rfl, hgv⟩, hb6⟩
    have hbq6 := bstep hbq5 hb6
    have Ho66 : Hid (OwnP w6 W2.heap.size v6 ps) := own_below Ho65.out hb6
    have Hgv := Lib.hid hgv
    clear y0 y1 y2 y3 y4 y5 y6 y7 hgv hb6 hbq5 Ho65
    go_wp2_with (
      (refine wpList_store_local rfl 56 (.tmp 8) _ rfl [.int .i64 gk0, .float .f64 gx, .string gs] rfl rfl size3 rfl (by simp [Value.oneCell']) ?_
       intro w7 q7 hb7 hz7))
    have hbq7 := bstep hbq6 hb7
    have Ho67 : Hid (OwnP w7 W2.heap.size v6 ps) := own_below Ho66.out hb7
    have hL : W2.heap.size ≤ w6.heap.size := hbq6.size
    have z0 : w7.cell? ⟨w6.heap.size, 0, none⟩ = some (.int .i64 gk0) := cell_list q7 0 _ rfl
    have z1 : w7.cell? ⟨w6.heap.size, 1, none⟩ = some (.float .f64 gx) := cell_list q7 1 _ rfl
    have z2 : w7.cell? ⟨w6.heap.size, 2, none⟩ = some (.string gs) := cell_list q7 2 _ rfl
    have hL7 : w6.heap.size < w7.heap.size := by omega
    have Ho67 := Ho67
    have HK8 : Hid (∀ w', Below w7.heap.size w7 w' → w'.cell? ⟨w6.heap.size, 0, none⟩ = some (.int .i64 gk0) ∧ w'.cell? ⟨w6.heap.size, 1, none⟩ = some (.float .f64 gx) ∧ w'.cell? ⟨w6.heap.size, 2, none⟩ = some (.string gs)) := fun w' hb => by
      have q := (hb.block w6.heap.size hL7).trans q7
      exact ⟨cell_of_row _ _ _ _ _ _ q, cell_of_row _ _ _ _ _ _ q, cell_of_row _ _ _ _ _ _ q⟩
    go_wp2_with fail
    refine region_two (fun a => (a.put (some 32) (.agg #[.int .i64 gk0, .float .f64 gx, .string gs])).put (some 33) (.agg #[.int .i64 gk0, .float .f64 gx, .string gs])) 9 10 56 #[.int .i64 gk0, .float .f64 gx, .string gs] ?_ ?_
    · clear Hc HRr Hup HFin HPs HGt HSt HOk HRp Hcc HW2 Hz2 Hgv HcR Ho66 hbq6 hL HK8 Ho67
      intro R hR
      go_region
      all_goals
        first
          | exact hR (w6.heap.size + 1) (w6.heap.size + 1 + 1) _ _ rfl (by omega) (by omega) (by omega) (two_drew _ _ _) (two_row0 _ _ hz7) (two_row1 _ _ hz7)
          | exact hR (w6.heap.size + 1 + 1) (w6.heap.size + 1) _ _ rfl (by omega) (by omega) (by omega) (two_drew _ _ _) (two_row1 _ _ hz7) (two_row0 _ _ hz7)
    · rintro b9 b10 w8 h910 g9 g10 hb8 R9 R10
      have HR9 := Lib.hid R9
      have HR10 := Lib.hid R10
      clear R9 R10
      have R9 := HR9
      have R10 := HR10
      have hw8 := bstep hbq7 hb8
      have hR0 := HcR.out
      rw [Hcc.out] at hR0
      have HPv : Hid (vk ≠ 0 → PairOk (key, ⟨vk, vx, vs⟩)) := fun h => ⟨hR0.lo, hR0.hi, h, hR0.val, HOk.out.vx⟩
      have Hvv : Hid (VaS ⟨vk, vx, vs⟩) := vas_chk hR0.val HOk.out.vx
      have Hnum : Hid (k = 5 ∨ k = 6 → vk = 1) := hR0.num
      have HKv : Hid (∃ q : Bool, ∀ w, Calls Tryd.prog 28 #[.agg #[.int .i64 gk0, .float .f64 gx, .string gs], .agg #[.int .i64 ok, .float .f64 ox, .string os]] w fun e w' => e = .returned (.bool q) ∧ Below w.heap.size w w') := ⟨_, fun w => keepVa_any ⟨gk0, gx, gs⟩ ⟨ok, ox, os⟩ w Hgv.out.num HOk.out.ox⟩
      have hPk : ∀ (j : Va), VaS j → (chkVa j = 0 ∧ j.k ≠ 0) → PairOk (key, j) := fun j hj h => ⟨hR0.lo, hR0.hi, h.2, h.1, hj.num⟩
      have HJ5 : Hid (k = 5 → ∃ (j : Va) (je : Int), (∀ w, Calls Tryd.prog 100 #[.agg #[.int .i64 gk0, .float .f64 gx, .string gs], .agg #[.int .i64 vk, .float .f64 vx, .string vs], .bool true] w fun e w' => e = .returned (.tuple #[.agg #[.int .i64 j.k, .float .f64 j.x, .string j.s], .int .i64 je]) ∧ Below w.heap.size w w') ∧ VaS j ∧ (je = 0 → PairOk (key, j))) := fun hk => by
        have hj := join_right addV ⟨gk0, gx, gs⟩ ⟨vk, vx, vs⟩ (fun x y _ _ => addV_lt x y) (fun x y _ _ => canon_addV x y) Hgv.out Hvv.out (hR0.num (.inl hk))
        exact ⟨_, _, fun w => RJoin_ADD addV ⟨gk0, gx, gs⟩ ⟨vk, vx, vs⟩ w Hgv.out.num HOk.out.vx Hgv.out.txt Hvv.out.txt (fun w => (RefAdd_any gx vx w).mono fun e w' h => Qt_below h), hj.1, fun h0 => hPk _ hj.1 (hj.2 h0)⟩
      have HJ6 : Hid (k = 6 → ∃ (j : Va) (je : Int), (∀ w, Calls Tryd.prog 100 #[.agg #[.int .i64 gk0, .float .f64 gx, .string gs], .agg #[.int .i64 vk, .float .f64 vx, .string vs], .bool false] w fun e w' => e = .returned (.tuple #[.agg #[.int .i64 j.k, .float .f64 j.x, .string j.s], .int .i64 je]) ∧ Below w.heap.size w w') ∧ VaS j ∧ (je = 0 → PairOk (key, j))) := fun hk => by
        have hj := join_right maxV ⟨gk0, gx, gs⟩ ⟨vk, vx, vs⟩ (fun x y h1 h2 => maxV_lt h1 h2) (fun x y h1 h2 => canon_maxR h1 h2) Hgv.out Hvv.out (hR0.num (.inr hk))
        exact ⟨_, _, fun w => RJoin_MAX maxV ⟨gk0, gx, gs⟩ ⟨vk, vx, vs⟩ w Hgv.out.num HOk.out.vx Hgv.out.txt Hvv.out.txt (fun w => (RefMax_any gx vx w Hgv.out.num HOk.out.vx).mono fun e w' ⟨h1, h2⟩ => ⟨h1, by rw [← h2]; exact Below.refl _ _⟩), hj.1, fun h0 => hPk _ hj.1 (hj.2 h0)⟩
      have hk16 : k = 1 ∨ k = 2 ∨ k = 3 ∨ k = 4 ∨ k = 5 ∨ k = 6 := by have h1 : 1 ≤ k := hR0.k1; have h2 : k ≤ 6 := hR0.k6; omega
      obtain ⟨y0, y1, y2, y3, y4, y5, y6, y7⟩ := Hc.out _ hw8
      obtain ⟨z0, z1, z2⟩ := HK8.out _ hb8
      have Hw8 := Lib.hid hw8
      clear hR0 hPk hw8 q7 hb7 hz7 hL hL7 hbq6 Ho66 HPs HGt Hcc HcR HW2 Hz2
      rcases hk16 with rfl | rfl | rfl | rfl | rfl | rfl
      · clear HKv HJ5 HJ6
        go_wp2_with fail
        with_reducible refine wp_region_tail 4 (by decide) (by kernel_rfl) (by kernel_rfl) (by kernel_rfl) (by kernel_rfl) [.val (v6),
              .val (.agg #[.int .i64 gk0, .float .f64 gx, .string gs]),
              .val (.agg #[.int .i64 0, .int .i64 gk0, .float .f64 gx, .string gs]),
              .val (v6)] ?mka (fun f => ?hmka) ?f0a ?h0a ?hputa ?hstepa ?htaila
        case hmka =>
          simp only [List.take_succ_cons, List.take_zero, putOps, Act.put, List.setIfInBounds_toArray, List.set_cons_succ, List.set_cons_zero, Nat.zero_add, Nat.reduceAdd]
          rfl
        case f0a => exact fun k => ([undef, undef, undef, .slice none 0 0] : List Value).getD k undef
        case h0a => exact rfl
        case hputa =>
          simp only [List.take_succ_cons, List.take_zero]
          repeat (refine ⟨fun f v => rfl, ?_⟩)
          exact trivial
        case hstepa =>
          simp only [List.take_succ_cons, List.take_zero]
          refine ⟨fun f w1 hb1 hd => ?_, ?_⟩
          · clear hd
            go_wp2_with fail
            exact ⟨_, by first | rfl | simp only [Act.put, List.setIfInBounds_toArray, List.set_cons_succ, List.set_cons_zero], Below.refl _ _, rfl⟩
          refine ⟨fun f w1 hb1 hd => ?_, ?_⟩
          · clear hd
            obtain ⟨z0, z1, z2⟩ := HK8.out w1 (bstep hb8 hb1)
            clear Hc HRr Hup HFin HSt
            go_wp2_with fail
            exact ⟨_, by first | rfl | simp only [Act.put, List.setIfInBounds_toArray, List.set_cons_succ, List.set_cons_zero], Below.refl _ _, rfl⟩
          refine ⟨fun f w1 hb1 hd => ?_, ?_⟩
          · obtain ⟨d0, -⟩ := hd
            have q1 : f 1 = .agg #[.int .i64 gk0, .float .f64 gx, .string gs] := d0
            clear d0
            go_wp2_with fail
            exact ⟨_, by first | rfl | simp only [q1, Act.put, List.setIfInBounds_toArray, List.set_cons_succ, List.set_cons_zero], Below.refl _ _, rfl⟩
          refine ⟨fun f w1 hb1 hd => ?_, ?_⟩
          · obtain ⟨d0, d1, -⟩ := hd
            have q0 : f 0 = v6 := d0
            clear d0 d1
            go_wp2_with fail
            exact ⟨_, by first | rfl | simp only [q0, Act.put, List.setIfInBounds_toArray, List.set_cons_succ, List.set_cons_zero], Below.refl _ _, rfl⟩
          exact trivial
        case htaila =>
          intro f w1 hb1 hd
          simp only [List.drop_succ_cons, List.drop_zero]
          have q2 : f 2 = .agg #[.int .i64 0, .int .i64 gk0, .float .f64 gx, .string gs] := hd 2 (by decide)
          have q3 : f 3 = v6 := hd 3 (by decide)
          clear hd
          have hbn := bstep hb8 hb1
          have hbw2 := bstep hbq7 hbn
          have Hr := Lib.hid (HRr.out _ hbw2)
          rw [q2, q3]
          go_wp2_with (refine wpList_store_row rfl 81 (.tmp 5) (.tmp 56) rfl (w.heap.size + 1) #[.int .i64 0, .int .i64 gk0, .float .f64 gx, .string gs] rfl rfl 81 #[.int .i64 0, .int .i64 0, .float .f64 0, .string ⟨#[]⟩] Hr.out size4r rfl (reply_one _ _ _ _) ?_)
          refine bodyPost_ret (results_rep Tryd.results77 _ _ (w.heap.size + 1) _ _ _ _ _ rfl rfl (setRow_heap _ _ _ _ _ _ Hr.out)) rfl ?_
          exact HFin.out w1 v6 _ 0 ⟨gk0, gx, gs⟩ _ hbw2 (own_below Ho67.out hbn) HRp.out Hgv.out
      · clear HKv HJ5 HJ6
        go_wp2_with (refine wpList_store_rowV rfl 56 (.tmp 9) (.tmp 60) rfl b9 #[.int .i64 vk, .float .f64 vx, .string vs] rfl rfl 56 _ R9.out size3 rfl (val_one _ _ _) ?_
                     intro wz n9 ne9 nb9
                     have hB := nb9 _ _ g9 hb8
                     have r9 := Lib.hid n9
                     have r10 := Lib.hid ((ne9 b10 (Ne.symm h910)).trans R10.out)
                     obtain ⟨-, y1n, -⟩ := Hc.out _ (bstep hbq7 hB)
                     have x0 : wz.cell? ⟨b9, 0, none⟩ = some (.int .i64 vk) := cell_of_row _ _ _ _ _ _ n9
                     have x1 : wz.cell? ⟨b9, 1, none⟩ = some (.float .f64 vx) := cell_of_row _ _ _ _ _ _ n9
                     have x2 : wz.cell? ⟨b9, 2, none⟩ = some (.string vs) := cell_of_row _ _ _ _ _ _ n9)
        refine (HSt.out ⟨vk, vx, vs⟩ _ HPv.out (bstep hbq7 hB)).mono ?_
        rintro e w10 ⟨⟨v11, l, rfl, ho11, hs11, hn11⟩, hb10⟩
        have hB10 := bstep hB hb10
        have hz10 : b10 < wz.heap.size := (Array.getElem?_eq_some_iff.1 r10.out).1
        have r10n : Hid (w10.heap[b10]? = some (.cells #[.int .i64 gk0, .float .f64 gx, .string gs] 56 (0, 0))) := (hb10.block _ hz10).trans r10.out
        have hsz : W2.heap.size ≤ wz.heap.size := (bstep hbq7 hB).size
        have Ho11 : Hid (OwnP w10 W2.heap.size v11 l) := own_base ho11 hsz
        have Hs11 := Lib.hid hs11
        obtain ⟨m, hm⟩ : ∃ m, l.length = m := ⟨_, rfl⟩
        obtain ⟨A2, c2, rfl, hrw⟩ := ownP_rows ho11 hm
        have Hm := Lib.hid hm
        clear hm hrw ho11 hs11 hn11 hb10 hB hsz hz10 r9 r10 n9 ne9 nb9
        rcases Nat.lt_or_ge 32 m with hlt | hge
        · have i0 : (32 : Int) < (m : Int) := by omega
          have hbw2 := bstep hbq7 hB10
          have Hr := Lib.hid (HRr.out _ hbw2)
          have Ho6n : Hid (OwnP w10 W2.heap.size v6 ps) := own_below Ho67.out hB10
          clear hlt
          go_wp2_with (refine wpList_store_row rfl 81 (.tmp 5) (.tmp 85) rfl (w.heap.size + 1) #[.int .i64 5, .int .i64 0, .float .f64 0, .string ⟨#[]⟩] rfl rfl 81 #[.int .i64 0, .int .i64 0, .float .f64 0, .string ⟨#[]⟩] Hr.out size4r rfl (reply_one _ _ _ _) ?_)
          refine bodyPost_ret (results_rep Tryd.results77 _ _ (w.heap.size + 1) _ _ _ _ _ rfl rfl (setRow_heap _ _ _ _ _ _ Hr.out)) rfl ?_
          exact HFin.out w10 v6 _ 5 ⟨0, 0, ⟨#[]⟩⟩ _ hbw2 Ho6n.out HRp.out vas_zero
        · have i0 : ¬ (32 : Int) < (m : Int) := by omega
          have Hlw : Hid (RightP l) := ⟨Hs11.out, by have := Hm.out; omega⟩
          have HK10 : Hid (∀ w', Below w10.heap.size w10 w' → w'.cell? ⟨b10, 0, none⟩ = some (.int .i64 gk0) ∧ w'.cell? ⟨b10, 1, none⟩ = some (.float .f64 gx) ∧ w'.cell? ⟨b10, 2, none⟩ = some (.string gs)) := fun w' hb => by
            have q := (hb.block b10 (Array.getElem?_eq_some_iff.1 r10n.out).1).trans r10n.out
            exact ⟨cell_of_row _ _ _ _ _ _ q, cell_of_row _ _ _ _ _ _ q, cell_of_row _ _ _ _ _ _ q⟩
          clear hge
          go_wp2_with fail
          with_reducible refine wp_region_tail 4 (by decide) (by kernel_rfl) (by kernel_rfl) (by kernel_rfl) (by kernel_rfl) [.val ((.slice A2 m c2)),
                .val (.agg #[.int .i64 gk0, .float .f64 gx, .string gs]),
                .val (.agg #[.int .i64 0, .int .i64 gk0, .float .f64 gx, .string gs]),
                .val ((.slice A2 m c2))] ?mkb (fun f => ?hmkb) ?f0b ?h0b ?hputb ?hstepb ?htailb
          case hmkb =>
            simp only [List.take_succ_cons, List.take_zero, putOps, Act.put, List.setIfInBounds_toArray, List.set_cons_succ, List.set_cons_zero, Nat.zero_add, Nat.reduceAdd]
            rfl
          case f0b => exact fun k => ([undef, undef, undef, .slice none 0 0] : List Value).getD k undef
          case h0b => exact rfl
          case hputb =>
            simp only [List.take_succ_cons, List.take_zero]
            repeat (refine ⟨fun f v => rfl, ?_⟩)
            exact trivial
          case hstepb =>
            simp only [List.take_succ_cons, List.take_zero]
            refine ⟨fun f w1 hb1 hd => ?_, ?_⟩
            · clear hd
              go_wp2_with fail
              exact ⟨_, by first | rfl | simp only [Act.put, List.setIfInBounds_toArray, List.set_cons_succ, List.set_cons_zero], Below.refl _ _, rfl⟩
            refine ⟨fun f w1 hb1 hd => ?_, ?_⟩
            · clear hd
              obtain ⟨z0, z1, z2⟩ := HK10.out w1 hb1
              clear Hc HRr Hup HFin HSt
              go_wp2_with fail
              exact ⟨_, by first | rfl | simp only [Act.put, List.setIfInBounds_toArray, List.set_cons_succ, List.set_cons_zero], Below.refl _ _, rfl⟩
            refine ⟨fun f w1 hb1 hd => ?_, ?_⟩
            · obtain ⟨d0, -⟩ := hd
              have q1 : f 1 = .agg #[.int .i64 gk0, .float .f64 gx, .string gs] := d0
              clear d0
              go_wp2_with fail
              exact ⟨_, by first | rfl | simp only [q1, Act.put, List.setIfInBounds_toArray, List.set_cons_succ, List.set_cons_zero], Below.refl _ _, rfl⟩
            refine ⟨fun f w1 hb1 hd => ?_, ?_⟩
            · obtain ⟨d0, d1, -⟩ := hd
              have q0 : f 0 = (.slice A2 m c2) := d0
              clear d0 d1
              go_wp2_with fail
              exact ⟨_, by first | rfl | simp only [q0, Act.put, List.setIfInBounds_toArray, List.set_cons_succ, List.set_cons_zero], Below.refl _ _, rfl⟩
            exact trivial
          case htailb =>
            intro f w1 hb1 hd
            simp only [List.drop_succ_cons, List.drop_zero]
            have q2 : f 2 = .agg #[.int .i64 0, .int .i64 gk0, .float .f64 gx, .string gs] := hd 2 (by decide)
            have q3 : f 3 = (.slice A2 m c2) := hd 3 (by decide)
            clear hd
            have hbn := bstep hB10 hb1
            have hbw2 := bstep hbq7 hbn
            have Hr := Lib.hid (HRr.out _ hbw2)
            rw [q2, q3]
            go_wp2_with (refine wpList_store_row rfl 81 (.tmp 5) (.tmp 88) rfl (w.heap.size + 1) #[.int .i64 0, .int .i64 gk0, .float .f64 gx, .string gs] rfl rfl 81 #[.int .i64 0, .int .i64 0, .float .f64 0, .string ⟨#[]⟩] Hr.out size4r rfl (reply_one _ _ _ _) ?_)
            refine bodyPost_ret (results_rep Tryd.results77 _ _ (w.heap.size + 1) _ _ _ _ _ rfl rfl (setRow_heap _ _ _ _ _ _ Hr.out)) rfl ?_
            exact HFin.out w1 (.slice A2 m c2) _ 0 ⟨gk0, gx, gs⟩ _ hbw2 (own_below Ho11.out hb1) Hlw.out Hgv.out
      · clear HKv HJ5 HJ6
        go_wp2_with (refine wpList_store_rowV rfl 56 (.tmp 9) (.tmp 63) rfl b9 #[.int .i64 0, .float .f64 0, .string ⟨#[]⟩] rfl rfl 56 _ R9.out size3 rfl (val_one _ _ _) ?_
                     intro wz n9 ne9 nb9
                     have hB := nb9 _ _ g9 hb8
                     have r9 := Lib.hid n9
                     have r10 := Lib.hid ((ne9 b10 (Ne.symm h910)).trans R10.out)
                     obtain ⟨-, y1n, -⟩ := Hc.out _ (bstep hbq7 hB)
                     have x0 : wz.cell? ⟨b9, 0, none⟩ = some (.int .i64 0) := cell_of_row _ _ _ _ _ _ n9
                     have x1 : wz.cell? ⟨b9, 1, none⟩ = some (.float .f64 0) := cell_of_row _ _ _ _ _ _ n9
                     have x2 : wz.cell? ⟨b9, 2, none⟩ = some (.string ⟨#[]⟩) := cell_of_row _ _ _ _ _ _ n9)
        refine (HSt.out ⟨0, 0, ⟨#[]⟩⟩ _ (fun h => absurd rfl h) (bstep hbq7 hB)).mono ?_
        rintro e w10 ⟨⟨v11, l, rfl, ho11, hs11, hn11⟩, hb10⟩
        have hB10 := bstep hB hb10
        have hz10 : b10 < wz.heap.size := (Array.getElem?_eq_some_iff.1 r10.out).1
        have r10n : Hid (w10.heap[b10]? = some (.cells #[.int .i64 gk0, .float .f64 gx, .string gs] 56 (0, 0))) := (hb10.block _ hz10).trans r10.out
        have hsz : W2.heap.size ≤ wz.heap.size := (bstep hbq7 hB).size
        have Ho11 : Hid (OwnP w10 W2.heap.size v11 l) := own_base ho11 hsz
        have Hs11 := Lib.hid hs11
        obtain ⟨m, hm⟩ : ∃ m, l.length = m := ⟨_, rfl⟩
        obtain ⟨A2, c2, rfl, hrw⟩ := ownP_rows ho11 hm
        have Hm := Lib.hid hm
        clear hm hrw ho11 hs11 hn11 hb10 hB hsz hz10 r9 r10 n9 ne9 nb9
        rcases Nat.lt_or_ge 32 m with hlt | hge
        · have i0 : (32 : Int) < (m : Int) := by omega
          have hbw2 := bstep hbq7 hB10
          have Hr := Lib.hid (HRr.out _ hbw2)
          have Ho6n : Hid (OwnP w10 W2.heap.size v6 ps) := own_below Ho67.out hB10
          clear hlt
          go_wp2_with (refine wpList_store_row rfl 81 (.tmp 5) (.tmp 85) rfl (w.heap.size + 1) #[.int .i64 5, .int .i64 0, .float .f64 0, .string ⟨#[]⟩] rfl rfl 81 #[.int .i64 0, .int .i64 0, .float .f64 0, .string ⟨#[]⟩] Hr.out size4r rfl (reply_one _ _ _ _) ?_)
          refine bodyPost_ret (results_rep Tryd.results77 _ _ (w.heap.size + 1) _ _ _ _ _ rfl rfl (setRow_heap _ _ _ _ _ _ Hr.out)) rfl ?_
          exact HFin.out w10 v6 _ 5 ⟨0, 0, ⟨#[]⟩⟩ _ hbw2 Ho6n.out HRp.out vas_zero
        · have i0 : ¬ (32 : Int) < (m : Int) := by omega
          have Hlw : Hid (RightP l) := ⟨Hs11.out, by have := Hm.out; omega⟩
          have HK10 : Hid (∀ w', Below w10.heap.size w10 w' → w'.cell? ⟨b10, 0, none⟩ = some (.int .i64 gk0) ∧ w'.cell? ⟨b10, 1, none⟩ = some (.float .f64 gx) ∧ w'.cell? ⟨b10, 2, none⟩ = some (.string gs)) := fun w' hb => by
            have q := (hb.block b10 (Array.getElem?_eq_some_iff.1 r10n.out).1).trans r10n.out
            exact ⟨cell_of_row _ _ _ _ _ _ q, cell_of_row _ _ _ _ _ _ q, cell_of_row _ _ _ _ _ _ q⟩
          clear hge
          go_wp2_with fail
          with_reducible refine wp_region_tail 4 (by decide) (by kernel_rfl) (by kernel_rfl) (by kernel_rfl) (by kernel_rfl) [.val ((.slice A2 m c2)),
                .val (.agg #[.int .i64 gk0, .float .f64 gx, .string gs]),
                .val (.agg #[.int .i64 0, .int .i64 gk0, .float .f64 gx, .string gs]),
                .val ((.slice A2 m c2))] ?mkc (fun f => ?hmkc) ?f0c ?h0c ?hputc ?hstepc ?htailc
          case hmkc =>
            simp only [List.take_succ_cons, List.take_zero, putOps, Act.put, List.setIfInBounds_toArray, List.set_cons_succ, List.set_cons_zero, Nat.zero_add, Nat.reduceAdd]
            rfl
          case f0c => exact fun k => ([undef, undef, undef, .slice none 0 0] : List Value).getD k undef
          case h0c => exact rfl
          case hputc =>
            simp only [List.take_succ_cons, List.take_zero]
            repeat (refine ⟨fun f v => rfl, ?_⟩)
            exact trivial
          case hstepc =>
            simp only [List.take_succ_cons, List.take_zero]
            refine ⟨fun f w1 hb1 hd => ?_, ?_⟩
            · clear hd
              go_wp2_with fail
              exact ⟨_, by first | rfl | simp only [Act.put, List.setIfInBounds_toArray, List.set_cons_succ, List.set_cons_zero], Below.refl _ _, rfl⟩
            refine ⟨fun f w1 hb1 hd => ?_, ?_⟩
            · clear hd
              obtain ⟨z0, z1, z2⟩ := HK10.out w1 hb1
              clear Hc HRr Hup HFin HSt
              go_wp2_with fail
              exact ⟨_, by first | rfl | simp only [Act.put, List.setIfInBounds_toArray, List.set_cons_succ, List.set_cons_zero], Below.refl _ _, rfl⟩
            refine ⟨fun f w1 hb1 hd => ?_, ?_⟩
            · obtain ⟨d0, -⟩ := hd
              have q1 : f 1 = .agg #[.int .i64 gk0, .float .f64 gx, .string gs] := d0
              clear d0
              go_wp2_with fail
              exact ⟨_, by first | rfl | simp only [q1, Act.put, List.setIfInBounds_toArray, List.set_cons_succ, List.set_cons_zero], Below.refl _ _, rfl⟩
            refine ⟨fun f w1 hb1 hd => ?_, ?_⟩
            · obtain ⟨d0, d1, -⟩ := hd
              have q0 : f 0 = (.slice A2 m c2) := d0
              clear d0 d1
              go_wp2_with fail
              exact ⟨_, by first | rfl | simp only [q0, Act.put, List.setIfInBounds_toArray, List.set_cons_succ, List.set_cons_zero], Below.refl _ _, rfl⟩
            exact trivial
          case htailc =>
            intro f w1 hb1 hd
            simp only [List.drop_succ_cons, List.drop_zero]
            have q2 : f 2 = .agg #[.int .i64 0, .int .i64 gk0, .float .f64 gx, .string gs] := hd 2 (by decide)
            have q3 : f 3 = (.slice A2 m c2) := hd 3 (by decide)
            clear hd
            have hbn := bstep hB10 hb1
            have hbw2 := bstep hbq7 hbn
            have Hr := Lib.hid (HRr.out _ hbw2)
            rw [q2, q3]
            go_wp2_with (refine wpList_store_row rfl 81 (.tmp 5) (.tmp 88) rfl (w.heap.size + 1) #[.int .i64 0, .int .i64 gk0, .float .f64 gx, .string gs] rfl rfl 81 #[.int .i64 0, .int .i64 0, .float .f64 0, .string ⟨#[]⟩] Hr.out size4r rfl (reply_one _ _ _ _) ?_)
            refine bodyPost_ret (results_rep Tryd.results77 _ _ (w.heap.size + 1) _ _ _ _ _ rfl rfl (setRow_heap _ _ _ _ _ _ Hr.out)) rfl ?_
            exact HFin.out w1 (.slice A2 m c2) _ 0 ⟨gk0, gx, gs⟩ _ hbw2 (own_below Ho11.out hb1) Hlw.out Hgv.out
      · skip
        obtain ⟨q, hq⟩ := HKv.out
        go_wp2_with fail
        refine (hq _).mono ?_
        clear hq
        rintro e w9 ⟨rfl, hb9⟩
        have R9n : Hid (w9.heap[b9]? = _) := (hb9.block b9 (Array.getElem?_eq_some_iff.1 R9.out).1).trans R9.out
        have R10n : Hid (w9.heap[b10]? = _) := (hb9.block b10 (Array.getElem?_eq_some_iff.1 R10.out).1).trans R10.out
        have hb9w := bstep hb8 hb9
        clear hb9
        clear y0 y1 y2 y3 y4 y5 y6 y7 z0 z1 z2
        obtain ⟨y0, y1, y2, y3, y4, y5, y6, y7⟩ := Hc.out _ (bstep hbq7 hb9w)
        cases q
        · go_wp2_with fail
          with_reducible refine wp_region_tail 4 (by decide) (by kernel_rfl) (by kernel_rfl) (by kernel_rfl) (by kernel_rfl) [.val (v6),
                .val (.agg #[.int .i64 gk0, .float .f64 gx, .string gs]),
                .val (.agg #[.int .i64 9, .int .i64 gk0, .float .f64 gx, .string gs]),
                .val (v6)] ?mkd (fun f => ?hmkd) ?f0d ?h0d ?hputd ?hstepd ?htaild
          case hmkd =>
            simp only [List.take_succ_cons, List.take_zero, putOps, Act.put, List.setIfInBounds_toArray, List.set_cons_succ, List.set_cons_zero, Nat.zero_add, Nat.reduceAdd]
            rfl
          case f0d => exact fun k => ([undef, undef, undef, .slice none 0 0] : List Value).getD k undef
          case h0d => exact rfl
          case hputd =>
            simp only [List.take_succ_cons, List.take_zero]
            repeat (refine ⟨fun f v => rfl, ?_⟩)
            exact trivial
          case hstepd =>
            simp only [List.take_succ_cons, List.take_zero]
            refine ⟨fun f w1 hb1 hd => ?_, ?_⟩
            · clear hd
              go_wp2_with fail
              exact ⟨_, by first | rfl | simp only [Act.put, List.setIfInBounds_toArray, List.set_cons_succ, List.set_cons_zero], Below.refl _ _, rfl⟩
            refine ⟨fun f w1 hb1 hd => ?_, ?_⟩
            · clear hd
              obtain ⟨z0, z1, z2⟩ := HK8.out w1 (bstep hb9w hb1)
              clear Hc HRr Hup HFin HSt
              go_wp2_with fail
              exact ⟨_, by first | rfl | simp only [Act.put, List.setIfInBounds_toArray, List.set_cons_succ, List.set_cons_zero], Below.refl _ _, rfl⟩
            refine ⟨fun f w1 hb1 hd => ?_, ?_⟩
            · obtain ⟨d0, -⟩ := hd
              have q1 : f 1 = .agg #[.int .i64 gk0, .float .f64 gx, .string gs] := d0
              clear d0
              go_wp2_with fail
              exact ⟨_, by first | rfl | simp only [q1, Act.put, List.setIfInBounds_toArray, List.set_cons_succ, List.set_cons_zero], Below.refl _ _, rfl⟩
            refine ⟨fun f w1 hb1 hd => ?_, ?_⟩
            · obtain ⟨d0, d1, -⟩ := hd
              have q0 : f 0 = v6 := d0
              clear d0 d1
              go_wp2_with fail
              exact ⟨_, by first | rfl | simp only [q0, Act.put, List.setIfInBounds_toArray, List.set_cons_succ, List.set_cons_zero], Below.refl _ _, rfl⟩
            exact trivial
          case htaild =>
            intro f w1 hb1 hd
            simp only [List.drop_succ_cons, List.drop_zero]
            have q2 : f 2 = .agg #[.int .i64 9, .int .i64 gk0, .float .f64 gx, .string gs] := hd 2 (by decide)
            have q3 : f 3 = v6 := hd 3 (by decide)
            clear hd
            have hbn := bstep hb9w hb1
            have hbw2 := bstep hbq7 hbn
            have Hr := Lib.hid (HRr.out _ hbw2)
            rw [q2, q3]
            go_wp2_with (refine wpList_store_row rfl 81 (.tmp 5) (.tmp 73) rfl (w.heap.size + 1) #[.int .i64 9, .int .i64 gk0, .float .f64 gx, .string gs] rfl rfl 81 #[.int .i64 0, .int .i64 0, .float .f64 0, .string ⟨#[]⟩] Hr.out size4r rfl (reply_one _ _ _ _) ?_)
            refine bodyPost_ret (results_rep Tryd.results77 _ _ (w.heap.size + 1) _ _ _ _ _ rfl rfl (setRow_heap _ _ _ _ _ _ Hr.out)) rfl ?_
            exact HFin.out w1 v6 _ 9 ⟨gk0, gx, gs⟩ _ hbw2 (own_below Ho67.out hbn) HRp.out Hgv.out
        · skip
          go_wp2_with (refine wpList_store_rowV rfl 56 (.tmp 9) (.tmp 75) rfl b9 #[.int .i64 vk, .float .f64 vx, .string vs] rfl rfl 56 _ R9n.out size3 rfl (val_one _ _ _) ?_
                       intro wz n9 ne9 nb9
                       have hB := nb9 _ _ g9 hb9w
                       have r9 := Lib.hid n9
                       have r10 := Lib.hid ((ne9 b10 (Ne.symm h910)).trans R10n.out)
                       obtain ⟨-, y1n, -⟩ := Hc.out _ (bstep hbq7 hB)
                       have x0 : wz.cell? ⟨b9, 0, none⟩ = some (.int .i64 vk) := cell_of_row _ _ _ _ _ _ n9
                       have x1 : wz.cell? ⟨b9, 1, none⟩ = some (.float .f64 vx) := cell_of_row _ _ _ _ _ _ n9
                       have x2 : wz.cell? ⟨b9, 2, none⟩ = some (.string vs) := cell_of_row _ _ _ _ _ _ n9)
          refine (HSt.out ⟨vk, vx, vs⟩ _ HPv.out (bstep hbq7 hB)).mono ?_
          rintro e w10 ⟨⟨v11, l, rfl, ho11, hs11, hn11⟩, hb10⟩
          have hB10 := bstep hB hb10
          have hz10 : b10 < wz.heap.size := (Array.getElem?_eq_some_iff.1 r10.out).1
          have r10n : Hid (w10.heap[b10]? = some (.cells #[.int .i64 gk0, .float .f64 gx, .string gs] 56 (0, 0))) := (hb10.block _ hz10).trans r10.out
          have hsz : W2.heap.size ≤ wz.heap.size := (bstep hbq7 hB).size
          have Ho11 : Hid (OwnP w10 W2.heap.size v11 l) := own_base ho11 hsz
          have Hs11 := Lib.hid hs11
          obtain ⟨m, hm⟩ : ∃ m, l.length = m := ⟨_, rfl⟩
          obtain ⟨A2, c2, rfl, hrw⟩ := ownP_rows ho11 hm
          have Hm := Lib.hid hm
          clear hm hrw ho11 hs11 hn11 hb10 hB hsz hz10 r9 r10 n9 ne9 nb9
          rcases Nat.lt_or_ge 32 m with hlt | hge
          · have i0 : (32 : Int) < (m : Int) := by omega
            have hbw2 := bstep hbq7 hB10
            have Hr := Lib.hid (HRr.out _ hbw2)
            have Ho6n : Hid (OwnP w10 W2.heap.size v6 ps) := own_below Ho67.out hB10
            clear hlt
            go_wp2_with (refine wpList_store_row rfl 81 (.tmp 5) (.tmp 85) rfl (w.heap.size + 1) #[.int .i64 5, .int .i64 0, .float .f64 0, .string ⟨#[]⟩] rfl rfl 81 #[.int .i64 0, .int .i64 0, .float .f64 0, .string ⟨#[]⟩] Hr.out size4r rfl (reply_one _ _ _ _) ?_)
            refine bodyPost_ret (results_rep Tryd.results77 _ _ (w.heap.size + 1) _ _ _ _ _ rfl rfl (setRow_heap _ _ _ _ _ _ Hr.out)) rfl ?_
            exact HFin.out w10 v6 _ 5 ⟨0, 0, ⟨#[]⟩⟩ _ hbw2 Ho6n.out HRp.out vas_zero
          · have i0 : ¬ (32 : Int) < (m : Int) := by omega
            have Hlw : Hid (RightP l) := ⟨Hs11.out, by have := Hm.out; omega⟩
            have HK10 : Hid (∀ w', Below w10.heap.size w10 w' → w'.cell? ⟨b10, 0, none⟩ = some (.int .i64 gk0) ∧ w'.cell? ⟨b10, 1, none⟩ = some (.float .f64 gx) ∧ w'.cell? ⟨b10, 2, none⟩ = some (.string gs)) := fun w' hb => by
              have q := (hb.block b10 (Array.getElem?_eq_some_iff.1 r10n.out).1).trans r10n.out
              exact ⟨cell_of_row _ _ _ _ _ _ q, cell_of_row _ _ _ _ _ _ q, cell_of_row _ _ _ _ _ _ q⟩
            clear hge
            go_wp2_with fail
            with_reducible refine wp_region_tail 4 (by decide) (by kernel_rfl) (by kernel_rfl) (by kernel_rfl) (by kernel_rfl) [.val ((.slice A2 m c2)),
                  .val (.agg #[.int .i64 gk0, .float .f64 gx, .string gs]),
                  .val (.agg #[.int .i64 0, .int .i64 gk0, .float .f64 gx, .string gs]),
                  .val ((.slice A2 m c2))] ?mke (fun f => ?hmke) ?f0e ?h0e ?hpute ?hstepe ?htaile
            case hmke =>
              simp only [List.take_succ_cons, List.take_zero, putOps, Act.put, List.setIfInBounds_toArray, List.set_cons_succ, List.set_cons_zero, Nat.zero_add, Nat.reduceAdd]
              rfl
            case f0e => exact fun k => ([undef, undef, undef, .slice none 0 0] : List Value).getD k undef
            case h0e => exact rfl
            case hpute =>
              simp only [List.take_succ_cons, List.take_zero]
              repeat (refine ⟨fun f v => rfl, ?_⟩)
              exact trivial
            case hstepe =>
              simp only [List.take_succ_cons, List.take_zero]
              refine ⟨fun f w1 hb1 hd => ?_, ?_⟩
              · clear hd
                go_wp2_with fail
                exact ⟨_, by first | rfl | simp only [Act.put, List.setIfInBounds_toArray, List.set_cons_succ, List.set_cons_zero], Below.refl _ _, rfl⟩
              refine ⟨fun f w1 hb1 hd => ?_, ?_⟩
              · clear hd
                obtain ⟨z0, z1, z2⟩ := HK10.out w1 hb1
                clear Hc HRr Hup HFin HSt
                go_wp2_with fail
                exact ⟨_, by first | rfl | simp only [Act.put, List.setIfInBounds_toArray, List.set_cons_succ, List.set_cons_zero], Below.refl _ _, rfl⟩
              refine ⟨fun f w1 hb1 hd => ?_, ?_⟩
              · obtain ⟨d0, -⟩ := hd
                have q1 : f 1 = .agg #[.int .i64 gk0, .float .f64 gx, .string gs] := d0
                clear d0
                go_wp2_with fail
                exact ⟨_, by first | rfl | simp only [q1, Act.put, List.setIfInBounds_toArray, List.set_cons_succ, List.set_cons_zero], Below.refl _ _, rfl⟩
              refine ⟨fun f w1 hb1 hd => ?_, ?_⟩
              · obtain ⟨d0, d1, -⟩ := hd
                have q0 : f 0 = (.slice A2 m c2) := d0
                clear d0 d1
                go_wp2_with fail
                exact ⟨_, by first | rfl | simp only [q0, Act.put, List.setIfInBounds_toArray, List.set_cons_succ, List.set_cons_zero], Below.refl _ _, rfl⟩
              exact trivial
            case htaile =>
              intro f w1 hb1 hd
              simp only [List.drop_succ_cons, List.drop_zero]
              have q2 : f 2 = .agg #[.int .i64 0, .int .i64 gk0, .float .f64 gx, .string gs] := hd 2 (by decide)
              have q3 : f 3 = (.slice A2 m c2) := hd 3 (by decide)
              clear hd
              have hbn := bstep hB10 hb1
              have hbw2 := bstep hbq7 hbn
              have Hr := Lib.hid (HRr.out _ hbw2)
              rw [q2, q3]
              go_wp2_with (refine wpList_store_row rfl 81 (.tmp 5) (.tmp 88) rfl (w.heap.size + 1) #[.int .i64 0, .int .i64 gk0, .float .f64 gx, .string gs] rfl rfl 81 #[.int .i64 0, .int .i64 0, .float .f64 0, .string ⟨#[]⟩] Hr.out size4r rfl (reply_one _ _ _ _) ?_)
              refine bodyPost_ret (results_rep Tryd.results77 _ _ (w.heap.size + 1) _ _ _ _ _ rfl rfl (setRow_heap _ _ _ _ _ _ Hr.out)) rfl ?_
              exact HFin.out w1 (.slice A2 m c2) _ 0 ⟨gk0, gx, gs⟩ _ hbw2 (own_below Ho11.out hb1) Hlw.out Hgv.out
      · skip
        obtain ⟨⟨jk, jx, js⟩, je, hq, hjv, hjp⟩ := HJ5.out rfl
        have Hjv := Lib.hid hjv
        have Hjp := Lib.hid hjp
        dsimp only at hq
        clear hjv hjp
        go_wp2_with fail
        refine (hq _).mono ?_
        clear hq HJ5 HJ6 HKv
        rintro e w9 ⟨rfl, hb9⟩
        have R9n : Hid (w9.heap[b9]? = _) := (hb9.block b9 (Array.getElem?_eq_some_iff.1 R9.out).1).trans R9.out
        have R10n : Hid (w9.heap[b10]? = _) := (hb9.block b10 (Array.getElem?_eq_some_iff.1 R10.out).1).trans R10.out
        have hb9w := bstep hb8 hb9
        clear hb9
        clear y0 y1 y2 y3 y4 y5 y6 y7 z0 z1 z2
        rcases Decidable.em (je = 0) with hj0 | hj0
        · subst hj0
          go_wp2_with (first
            | (refine wpList_store_rowV rfl 56 (.tmp 9) (.tmp 44) rfl b9 #[.int .i64 jk, .float .f64 jx, .string js] rfl rfl 56 _ R9n.out size3 rfl (val_one _ _ _) ?_
               intro wz n9 ne9 nb9
               have hB := nb9 _ _ g9 hb9w
               have r9 := Lib.hid n9
               have r10 := Lib.hid ((ne9 b10 (Ne.symm h910)).trans R10n.out)
               obtain ⟨-, y1n, -⟩ := Hc.out _ (bstep hbq7 hB)
               have x0 : wz.cell? ⟨b9, 0, none⟩ = some (.int .i64 jk) := cell_of_row _ _ _ _ _ _ n9
               have x1 : wz.cell? ⟨b9, 1, none⟩ = some (.float .f64 jx) := cell_of_row _ _ _ _ _ _ n9
               have x2 : wz.cell? ⟨b9, 2, none⟩ = some (.string js) := cell_of_row _ _ _ _ _ _ n9)
            | (refine wpList_store_rowV rfl 56 (.tmp 10) (.tmp 51) rfl b10 #[.int .i64 jk, .float .f64 jx, .string js] rfl rfl 56 _ r10.out size3 rfl (val_one _ _ _) ?_
               intro wy n10 ne10 nb10
               have hB2 := nb10 _ _ g10 hB
               have r9b := Lib.hid ((ne10 b9 h910).trans r9.out)
               have r10b := Lib.hid n10
               obtain ⟨-, y1m, -⟩ := Hc.out _ (bstep hbq7 hB2)
               have m0 : wy.cell? ⟨b9, 0, none⟩ = some (.int .i64 jk) := cell_of_row _ _ _ _ _ _ r9b.out
               have m1 : wy.cell? ⟨b9, 1, none⟩ = some (.float .f64 jx) := cell_of_row _ _ _ _ _ _ r9b.out
               have m2 : wy.cell? ⟨b9, 2, none⟩ = some (.string js) := cell_of_row _ _ _ _ _ _ r9b.out))
          refine (HSt.out ⟨jk, jx, js⟩ _ (fun _ => Hjp.out (by trivial)) (bstep hbq7 hB2)).mono ?_
          rintro e w10 ⟨⟨v11, l, rfl, ho11, hs11, hn11⟩, hb10⟩
          have hB10 := bstep hB2 hb10
          have hz10 : b10 < wy.heap.size := (Array.getElem?_eq_some_iff.1 r10b.out).1
          have r10n : Hid (w10.heap[b10]? = some (.cells #[.int .i64 jk, .float .f64 jx, .string js] 56 (0, 0))) := (hb10.block _ hz10).trans r10b.out
          have hsz : W2.heap.size ≤ wy.heap.size := (bstep hbq7 hB2).size
          have Ho11 : Hid (OwnP w10 W2.heap.size v11 l) := own_base ho11 hsz
          have Hs11 := Lib.hid hs11
          obtain ⟨m, hm⟩ : ∃ m, l.length = m := ⟨_, rfl⟩
          obtain ⟨A2, c2, rfl, hrw⟩ := ownP_rows ho11 hm
          have Hm := Lib.hid hm
          clear hm hrw ho11 hs11 hn11 hb10 hB2 hsz hz10 r9b r10b n9 ne9 nb9
          rcases Nat.lt_or_ge 32 m with hlt | hge
          · have i0 : (32 : Int) < (m : Int) := by omega
            have hbw2 := bstep hbq7 hB10
            have Hr := Lib.hid (HRr.out _ hbw2)
            have Ho6n : Hid (OwnP w10 W2.heap.size v6 ps) := own_below Ho67.out hB10
            clear hlt
            go_wp2_with (refine wpList_store_row rfl 81 (.tmp 5) (.tmp 85) rfl (w.heap.size + 1) #[.int .i64 5, .int .i64 0, .float .f64 0, .string ⟨#[]⟩] rfl rfl 81 #[.int .i64 0, .int .i64 0, .float .f64 0, .string ⟨#[]⟩] Hr.out size4r rfl (reply_one _ _ _ _) ?_)
            refine bodyPost_ret (results_rep Tryd.results77 _ _ (w.heap.size + 1) _ _ _ _ _ rfl rfl (setRow_heap _ _ _ _ _ _ Hr.out)) rfl ?_
            exact HFin.out w10 v6 _ 5 ⟨0, 0, ⟨#[]⟩⟩ _ hbw2 Ho6n.out HRp.out vas_zero
          · have i0 : ¬ (32 : Int) < (m : Int) := by omega
            have Hlw : Hid (RightP l) := ⟨Hs11.out, by have := Hm.out; omega⟩
            have HK10 : Hid (∀ w', Below w10.heap.size w10 w' → w'.cell? ⟨b10, 0, none⟩ = some (.int .i64 jk) ∧ w'.cell? ⟨b10, 1, none⟩ = some (.float .f64 jx) ∧ w'.cell? ⟨b10, 2, none⟩ = some (.string js)) := fun w' hb => by
              have q := (hb.block b10 (Array.getElem?_eq_some_iff.1 r10n.out).1).trans r10n.out
              exact ⟨cell_of_row _ _ _ _ _ _ q, cell_of_row _ _ _ _ _ _ q, cell_of_row _ _ _ _ _ _ q⟩
            clear hge
            go_wp2_with fail
            with_reducible refine wp_region_tail 4 (by decide) (by kernel_rfl) (by kernel_rfl) (by kernel_rfl) (by kernel_rfl) [.val ((.slice A2 m c2)),
                  .val (.agg #[.int .i64 jk, .float .f64 jx, .string js]),
                  .val (.agg #[.int .i64 0, .int .i64 jk, .float .f64 jx, .string js]),
                  .val ((.slice A2 m c2))] ?mkf (fun f => ?hmkf) ?f0f ?h0f ?hputf ?hstepf ?htailf
            case hmkf =>
              simp only [List.take_succ_cons, List.take_zero, putOps, Act.put, List.setIfInBounds_toArray, List.set_cons_succ, List.set_cons_zero, Nat.zero_add, Nat.reduceAdd]
              rfl
            case f0f => exact fun k => ([undef, undef, undef, .slice none 0 0] : List Value).getD k undef
            case h0f => exact rfl
            case hputf =>
              simp only [List.take_succ_cons, List.take_zero]
              repeat (refine ⟨fun f v => rfl, ?_⟩)
              exact trivial
            case hstepf =>
              simp only [List.take_succ_cons, List.take_zero]
              refine ⟨fun f w1 hb1 hd => ?_, ?_⟩
              · clear hd
                go_wp2_with fail
                exact ⟨_, by first | rfl | simp only [Act.put, List.setIfInBounds_toArray, List.set_cons_succ, List.set_cons_zero], Below.refl _ _, rfl⟩
              refine ⟨fun f w1 hb1 hd => ?_, ?_⟩
              · clear hd
                obtain ⟨z0, z1, z2⟩ := HK10.out w1 hb1
                clear Hc HRr Hup HFin HSt
                go_wp2_with fail
                exact ⟨_, by first | rfl | simp only [Act.put, List.setIfInBounds_toArray, List.set_cons_succ, List.set_cons_zero], Below.refl _ _, rfl⟩
              refine ⟨fun f w1 hb1 hd => ?_, ?_⟩
              · obtain ⟨d0, -⟩ := hd
                have q1 : f 1 = .agg #[.int .i64 jk, .float .f64 jx, .string js] := d0
                clear d0
                go_wp2_with fail
                exact ⟨_, by first | rfl | simp only [q1, Act.put, List.setIfInBounds_toArray, List.set_cons_succ, List.set_cons_zero], Below.refl _ _, rfl⟩
              refine ⟨fun f w1 hb1 hd => ?_, ?_⟩
              · obtain ⟨d0, d1, -⟩ := hd
                have q0 : f 0 = (.slice A2 m c2) := d0
                clear d0 d1
                go_wp2_with fail
                exact ⟨_, by first | rfl | simp only [q0, Act.put, List.setIfInBounds_toArray, List.set_cons_succ, List.set_cons_zero], Below.refl _ _, rfl⟩
              exact trivial
            case htailf =>
              intro f w1 hb1 hd
              simp only [List.drop_succ_cons, List.drop_zero]
              have q2 : f 2 = .agg #[.int .i64 0, .int .i64 jk, .float .f64 jx, .string js] := hd 2 (by decide)
              have q3 : f 3 = (.slice A2 m c2) := hd 3 (by decide)
              clear hd
              have hbn := bstep hB10 hb1
              have hbw2 := bstep hbq7 hbn
              have Hr := Lib.hid (HRr.out _ hbw2)
              rw [q2, q3]
              go_wp2_with (refine wpList_store_row rfl 81 (.tmp 5) (.tmp 88) rfl (w.heap.size + 1) #[.int .i64 0, .int .i64 jk, .float .f64 jx, .string js] rfl rfl 81 #[.int .i64 0, .int .i64 0, .float .f64 0, .string ⟨#[]⟩] Hr.out size4r rfl (reply_one _ _ _ _) ?_)
              refine bodyPost_ret (results_rep Tryd.results77 _ _ (w.heap.size + 1) _ _ _ _ _ rfl rfl (setRow_heap _ _ _ _ _ _ Hr.out)) rfl ?_
              exact HFin.out w1 (.slice A2 m c2) _ 0 ⟨jk, jx, js⟩ _ hbw2 (own_below Ho11.out hb1) Hlw.out Hjv.out
        · have e1 : (je == 0) = false := by simpa using hj0
          have e2 : (je != 0) = true := by simpa using hj0
          clear hj0
          go_wp2_with (first
            | (refine wpList_store_rowV rfl 56 (.tmp 9) (.tmp 44) rfl b9 #[.int .i64 jk, .float .f64 jx, .string js] rfl rfl 56 _ R9n.out size3 rfl (val_one _ _ _) ?_
               intro wz n9 ne9 nb9
               have hB := nb9 _ _ g9 hb9w
               have r9 := Lib.hid n9
               have r10 := Lib.hid ((ne9 b10 (Ne.symm h910)).trans R10n.out)
               have hbw2 := bstep hbq7 hB
               have Hr := Lib.hid (HRr.out _ hbw2)
               clear r9 r10 n9 ne9 nb9)
            | (refine wpList_store_row rfl 81 (.tmp 5) (.tmp 50) rfl (w.heap.size + 1) #[.int .i64 je, .int .i64 0, .float .f64 0, .string ⟨#[]⟩] rfl rfl 81 #[.int .i64 0, .int .i64 0, .float .f64 0, .string ⟨#[]⟩] Hr.out size4r rfl (reply_one _ _ _ _) ?_))
          refine bodyPost_ret (results_rep Tryd.results77 _ _ (w.heap.size + 1) _ _ _ _ _ rfl rfl (setRow_heap _ _ _ _ _ _ Hr.out)) rfl ?_
          exact HFin.out wz v6 _ je ⟨0, 0, ⟨#[]⟩⟩ _ hbw2 (own_below Ho67.out hB) HRp.out vas_zero
      · skip
        obtain ⟨⟨jk, jx, js⟩, je, hq, hjv, hjp⟩ := HJ6.out rfl
        have Hjv := Lib.hid hjv
        have Hjp := Lib.hid hjp
        dsimp only at hq
        clear hjv hjp
        go_wp2_with fail
        refine (hq _).mono ?_
        clear hq HJ5 HJ6 HKv
        rintro e w9 ⟨rfl, hb9⟩
        have R9n : Hid (w9.heap[b9]? = _) := (hb9.block b9 (Array.getElem?_eq_some_iff.1 R9.out).1).trans R9.out
        have R10n : Hid (w9.heap[b10]? = _) := (hb9.block b10 (Array.getElem?_eq_some_iff.1 R10.out).1).trans R10.out
        have hb9w := bstep hb8 hb9
        clear hb9
        clear y0 y1 y2 y3 y4 y5 y6 y7 z0 z1 z2
        rcases Decidable.em (je = 0) with hj0 | hj0
        · subst hj0
          go_wp2_with (first
            | (refine wpList_store_rowV rfl 56 (.tmp 9) (.tmp 44) rfl b9 #[.int .i64 jk, .float .f64 jx, .string js] rfl rfl 56 _ R9n.out size3 rfl (val_one _ _ _) ?_
               intro wz n9 ne9 nb9
               have hB := nb9 _ _ g9 hb9w
               have r9 := Lib.hid n9
               have r10 := Lib.hid ((ne9 b10 (Ne.symm h910)).trans R10n.out)
               obtain ⟨-, y1n, -⟩ := Hc.out _ (bstep hbq7 hB)
               have x0 : wz.cell? ⟨b9, 0, none⟩ = some (.int .i64 jk) := cell_of_row _ _ _ _ _ _ n9
               have x1 : wz.cell? ⟨b9, 1, none⟩ = some (.float .f64 jx) := cell_of_row _ _ _ _ _ _ n9
               have x2 : wz.cell? ⟨b9, 2, none⟩ = some (.string js) := cell_of_row _ _ _ _ _ _ n9)
            | (refine wpList_store_rowV rfl 56 (.tmp 10) (.tmp 51) rfl b10 #[.int .i64 jk, .float .f64 jx, .string js] rfl rfl 56 _ r10.out size3 rfl (val_one _ _ _) ?_
               intro wy n10 ne10 nb10
               have hB2 := nb10 _ _ g10 hB
               have r9b := Lib.hid ((ne10 b9 h910).trans r9.out)
               have r10b := Lib.hid n10
               obtain ⟨-, y1m, -⟩ := Hc.out _ (bstep hbq7 hB2)
               have m0 : wy.cell? ⟨b9, 0, none⟩ = some (.int .i64 jk) := cell_of_row _ _ _ _ _ _ r9b.out
               have m1 : wy.cell? ⟨b9, 1, none⟩ = some (.float .f64 jx) := cell_of_row _ _ _ _ _ _ r9b.out
               have m2 : wy.cell? ⟨b9, 2, none⟩ = some (.string js) := cell_of_row _ _ _ _ _ _ r9b.out))
          refine (HSt.out ⟨jk, jx, js⟩ _ (fun _ => Hjp.out (by trivial)) (bstep hbq7 hB2)).mono ?_
          rintro e w10 ⟨⟨v11, l, rfl, ho11, hs11, hn11⟩, hb10⟩
          have hB10 := bstep hB2 hb10
          have hz10 : b10 < wy.heap.size := (Array.getElem?_eq_some_iff.1 r10b.out).1
          have r10n : Hid (w10.heap[b10]? = some (.cells #[.int .i64 jk, .float .f64 jx, .string js] 56 (0, 0))) := (hb10.block _ hz10).trans r10b.out
          have hsz : W2.heap.size ≤ wy.heap.size := (bstep hbq7 hB2).size
          have Ho11 : Hid (OwnP w10 W2.heap.size v11 l) := own_base ho11 hsz
          have Hs11 := Lib.hid hs11
          obtain ⟨m, hm⟩ : ∃ m, l.length = m := ⟨_, rfl⟩
          obtain ⟨A2, c2, rfl, hrw⟩ := ownP_rows ho11 hm
          have Hm := Lib.hid hm
          clear hm hrw ho11 hs11 hn11 hb10 hB2 hsz hz10 r9b r10b n9 ne9 nb9
          rcases Nat.lt_or_ge 32 m with hlt | hge
          · have i0 : (32 : Int) < (m : Int) := by omega
            have hbw2 := bstep hbq7 hB10
            have Hr := Lib.hid (HRr.out _ hbw2)
            have Ho6n : Hid (OwnP w10 W2.heap.size v6 ps) := own_below Ho67.out hB10
            clear hlt
            go_wp2_with (refine wpList_store_row rfl 81 (.tmp 5) (.tmp 85) rfl (w.heap.size + 1) #[.int .i64 5, .int .i64 0, .float .f64 0, .string ⟨#[]⟩] rfl rfl 81 #[.int .i64 0, .int .i64 0, .float .f64 0, .string ⟨#[]⟩] Hr.out size4r rfl (reply_one _ _ _ _) ?_)
            refine bodyPost_ret (results_rep Tryd.results77 _ _ (w.heap.size + 1) _ _ _ _ _ rfl rfl (setRow_heap _ _ _ _ _ _ Hr.out)) rfl ?_
            exact HFin.out w10 v6 _ 5 ⟨0, 0, ⟨#[]⟩⟩ _ hbw2 Ho6n.out HRp.out vas_zero
          · have i0 : ¬ (32 : Int) < (m : Int) := by omega
            have Hlw : Hid (RightP l) := ⟨Hs11.out, by have := Hm.out; omega⟩
            have HK10 : Hid (∀ w', Below w10.heap.size w10 w' → w'.cell? ⟨b10, 0, none⟩ = some (.int .i64 jk) ∧ w'.cell? ⟨b10, 1, none⟩ = some (.float .f64 jx) ∧ w'.cell? ⟨b10, 2, none⟩ = some (.string js)) := fun w' hb => by
              have q := (hb.block b10 (Array.getElem?_eq_some_iff.1 r10n.out).1).trans r10n.out
              exact ⟨cell_of_row _ _ _ _ _ _ q, cell_of_row _ _ _ _ _ _ q, cell_of_row _ _ _ _ _ _ q⟩
            clear hge
            go_wp2_with fail
            with_reducible refine wp_region_tail 4 (by decide) (by kernel_rfl) (by kernel_rfl) (by kernel_rfl) (by kernel_rfl) [.val ((.slice A2 m c2)),
                  .val (.agg #[.int .i64 jk, .float .f64 jx, .string js]),
                  .val (.agg #[.int .i64 0, .int .i64 jk, .float .f64 jx, .string js]),
                  .val ((.slice A2 m c2))] ?mkg (fun f => ?hmkg) ?f0g ?h0g ?hputg ?hstepg ?htailg
            case hmkg =>
              simp only [List.take_succ_cons, List.take_zero, putOps, Act.put, List.setIfInBounds_toArray, List.set_cons_succ, List.set_cons_zero, Nat.zero_add, Nat.reduceAdd]
              rfl
            case f0g => exact fun k => ([undef, undef, undef, .slice none 0 0] : List Value).getD k undef
            case h0g => exact rfl
            case hputg =>
              simp only [List.take_succ_cons, List.take_zero]
              repeat (refine ⟨fun f v => rfl, ?_⟩)
              exact trivial
            case hstepg =>
              simp only [List.take_succ_cons, List.take_zero]
              refine ⟨fun f w1 hb1 hd => ?_, ?_⟩
              · clear hd
                go_wp2_with fail
                exact ⟨_, by first | rfl | simp only [Act.put, List.setIfInBounds_toArray, List.set_cons_succ, List.set_cons_zero], Below.refl _ _, rfl⟩
              refine ⟨fun f w1 hb1 hd => ?_, ?_⟩
              · clear hd
                obtain ⟨z0, z1, z2⟩ := HK10.out w1 hb1
                clear Hc HRr Hup HFin HSt
                go_wp2_with fail
                exact ⟨_, by first | rfl | simp only [Act.put, List.setIfInBounds_toArray, List.set_cons_succ, List.set_cons_zero], Below.refl _ _, rfl⟩
              refine ⟨fun f w1 hb1 hd => ?_, ?_⟩
              · obtain ⟨d0, -⟩ := hd
                have q1 : f 1 = .agg #[.int .i64 jk, .float .f64 jx, .string js] := d0
                clear d0
                go_wp2_with fail
                exact ⟨_, by first | rfl | simp only [q1, Act.put, List.setIfInBounds_toArray, List.set_cons_succ, List.set_cons_zero], Below.refl _ _, rfl⟩
              refine ⟨fun f w1 hb1 hd => ?_, ?_⟩
              · obtain ⟨d0, d1, -⟩ := hd
                have q0 : f 0 = (.slice A2 m c2) := d0
                clear d0 d1
                go_wp2_with fail
                exact ⟨_, by first | rfl | simp only [q0, Act.put, List.setIfInBounds_toArray, List.set_cons_succ, List.set_cons_zero], Below.refl _ _, rfl⟩
              exact trivial
            case htailg =>
              intro f w1 hb1 hd
              simp only [List.drop_succ_cons, List.drop_zero]
              have q2 : f 2 = .agg #[.int .i64 0, .int .i64 jk, .float .f64 jx, .string js] := hd 2 (by decide)
              have q3 : f 3 = (.slice A2 m c2) := hd 3 (by decide)
              clear hd
              have hbn := bstep hB10 hb1
              have hbw2 := bstep hbq7 hbn
              have Hr := Lib.hid (HRr.out _ hbw2)
              rw [q2, q3]
              go_wp2_with (refine wpList_store_row rfl 81 (.tmp 5) (.tmp 88) rfl (w.heap.size + 1) #[.int .i64 0, .int .i64 jk, .float .f64 jx, .string js] rfl rfl 81 #[.int .i64 0, .int .i64 0, .float .f64 0, .string ⟨#[]⟩] Hr.out size4r rfl (reply_one _ _ _ _) ?_)
              refine bodyPost_ret (results_rep Tryd.results77 _ _ (w.heap.size + 1) _ _ _ _ _ rfl rfl (setRow_heap _ _ _ _ _ _ Hr.out)) rfl ?_
              exact HFin.out w1 (.slice A2 m c2) _ 0 ⟨jk, jx, js⟩ _ hbw2 (own_below Ho11.out hb1) Hlw.out Hjv.out
        · have e1 : (je == 0) = false := by simpa using hj0
          have e2 : (je != 0) = true := by simpa using hj0
          clear hj0
          go_wp2_with (first
            | (refine wpList_store_rowV rfl 56 (.tmp 9) (.tmp 44) rfl b9 #[.int .i64 jk, .float .f64 jx, .string js] rfl rfl 56 _ R9n.out size3 rfl (val_one _ _ _) ?_
               intro wz n9 ne9 nb9
               have hB := nb9 _ _ g9 hb9w
               have r9 := Lib.hid n9
               have r10 := Lib.hid ((ne9 b10 (Ne.symm h910)).trans R10n.out)
               have hbw2 := bstep hbq7 hB
               have Hr := Lib.hid (HRr.out _ hbw2)
               clear r9 r10 n9 ne9 nb9)
            | (refine wpList_store_row rfl 81 (.tmp 5) (.tmp 50) rfl (w.heap.size + 1) #[.int .i64 je, .int .i64 0, .float .f64 0, .string ⟨#[]⟩] rfl rfl 81 #[.int .i64 0, .int .i64 0, .float .f64 0, .string ⟨#[]⟩] Hr.out size4r rfl (reply_one _ _ _ _) ?_))
          refine bodyPost_ret (results_rep Tryd.results77 _ _ (w.heap.size + 1) _ _ _ _ _ rfl rfl (setRow_heap _ _ _ _ _ _ Hr.out)) rfl ?_
          exact HFin.out wz v6 _ je ⟨0, 0, ⟨#[]⟩⟩ _ hbw2 (own_below Ho67.out hB) HRp.out vas_zero
end Go.Proofs.YtkckncggiicciaaDoor
/-
  ReportPairs: a slice put into a row; what Once and Grown return.
-/
namespace Go.Proofs.YtkckncggiicciaaDoor
open Go.RowKit
set_option maxRecDepth 100000
/-- A store of a slice into a row's j-th cell, the world behind it by its facts. -/
theorem wpList_store_sliceV {P : Program} {ops : Array Oper} {rest : List Oper} {o : Oper} {a : Act} {w : World} {Q : Exit → Act → World → Prop} (hgd : o.guard = none) (ty : TypeId) (x y : Operand) (ho : o.op = .store ty x y)
    (g j : Nat) (A : Option Addr) (n c : Nat) (hx : a.eval x = .pointer (some ⟨g, j, none⟩)) (hy : a.eval y = .slice A n c)
    (t : TypeId) (old : Array Value) (hg : w.heap[g]? = some (.cells old t (0, 0))) (hj : j < old.size) (hi : (P.info? ty).map (·.size) = some 1)
    (h : ∀ wz, wz.heap[g]? = some (.cells (old.setIfInBounds j (.slice A n c)) t (0, 0)) → (∀ i, i ≠ g → wz.heap[i]? = w.heap[i]?) → (∀ B (v : World), B ≤ g → Below B v w → Below B v wz) → wpList P ops Q rest (a.put o.dst undef) wz) : wpList P ops Q (o :: rest) a w := by
  have z : w.cell? ⟨g, j, none⟩ = some old[j] := by rw [cell_of_row _ _ _ _ _ _ hg, Array.getElem?_eq_getElem hj]
  have f : w.frozen? ⟨g, j, none⟩ = false := frozen_of_row _ _ _ _ _ hg
  refine wpList_plain hgd fun _ hK => ?_
  have hk := hK _ _ (h (w.setCell ⟨g, j, none⟩ (.slice A n c)) (heap_setCell_same _ _ _ _ _ _ hg) (fun i hi => Below.heap_setCell _ _ _ _ hi) (fun B v hB hb => hb.setCell hB _))
  have hs : (storeVar ty ⟨g, j, none⟩ (.slice A n c)).run P w = .ok () (w.setCell ⟨g, j, none⟩ (.slice A n c)) := by
    cases hq : P.info? ty with
    | none => simp [hq] at hi
    | some i =>
      have h1 : i.size = 1 := by simpa [hq] using hi
      have hst := run_store P w ⟨g, j, none⟩ (.slice A n c) .plain rfl
      rw [z, f] at hst
      have h0 : (⟨g, j, none⟩ : Addr).add 0 = ⟨g, j, none⟩ := by rw [Addr.add_mid]; rfl
      simp [storeVar, sizeOf, typeInfo, hq, h1, Value.cells, storeCells, h0, hst]
  unfold Oper.wp execOp
  simp only [ho, hx, hy, Instr.storeAt, Instr.sureAddr, Sem.run_bind, Sem.run_pure, Result.andThen_ok, hs]
  exact hk
theorem results_mr {fn : Func} {c d : Nat} (h : fn.results = #[.cell c 44, .cell d 81]) (tmps : Array Value) (w : World) (g k : Nat) (u v : Value) (n q : Int) (x : Nat) (s : ByteArray)
    (hp : tmps.getD c undef = .pointer (some ⟨g, 0, none⟩)) (hq : tmps.getD d undef = .pointer (some ⟨k, 0, none⟩)) (hg : w.heap[g]? = some (.cells #[u, v] 44 (0, 0)))
    (hk : w.heap[k]? = some (.cells #[.int .i64 n, .int .i64 q, .float .f64 x, .string s] 81 (0, 0))) :
    (results fn tmps).run Tryd.prog w = .ok (.tuple #[.agg #[u, v], .agg #[.int .i64 n, .int .i64 q, .float .f64 x, .string s]]) w := by
  have hl := run_loadVar_row (P := Tryd.prog) w g 44 44 #[u, v] (0, 0) _ hg Tryd.underlying44 rfl size2m
  have hl2 := run_loadVar_row (P := Tryd.prog) w k 81 81 #[.int .i64 n, .int .i64 q, .float .f64 x, .string s] (0, 0) _ hk Tryd.underlying81 rfl size4r
  have hp' : tmps[c]?.getD undef = .pointer (some ⟨g, 0, none⟩) := by simpa using hp
  have hq' : tmps[d]?.getD undef = .pointer (some ⟨k, 0, none⟩) := by simpa using hq
  simp [results, h, hp', hq', asAddr, hl, hl2]
end Go.Proofs.YtkckncggiicciaaDoor
/-
  A region that draws its order: two rows are read and stored as two results.
-/
namespace Go.Proofs.YtkckncggiicciaaDoor
open Go Go.RowKit
def T2 (gA gB : Nat) (cA cB : Array Value) (tA tB : TypeId) : Nat → Value → World → Prop
  | 0, v, _ => v = .agg cA
  | 1, v, _ => v = .agg cB
  | 2, _, w => w.heap[gA]? = some (.cells cA tA (0, 0))
  | 3, _, w => w.heap[gB]? = some (.cells cB tB (0, 0))
  | _, _, _ => True
structure J2 (bA bB gA gB : Nat) (cA cB : Array Value) (tA tB : TypeId) (w0 w : World) : Prop where
  a : w.heap[bA]? = some (.cells cA tA (0, 0))
  b : w.heap[bB]? = some (.cells cB tB (0, 0))
  c : ∃ o, w.heap[gA]? = some (.cells o tA (0, 0)) ∧ o.size = cA.size
  d : ∃ o, w.heap[gB]? = some (.cells o tB (0, 0)) ∧ o.size = cB.size
  e : ∀ i, i ≠ gA → i ≠ gB → w.heap[i]? = w0.heap[i]?
  f : ∀ B (v : World), B ≤ gA → B ≤ gB → Below B v w0 → Below B v w
theorem J2.putA {bA bB gA gB : Nat} {cA cB : Array Value} {tA tB : TypeId} {w0 w : World} (h : J2 bA bB gA gB cA cB tA tB w0 w) (h1 : bA ≠ gA) (h3 : bB ≠ gA) (h5 : gA ≠ gB) : J2 bA bB gA gB cA cB tA tB w0 (w.setRow gA cA) := by
  obtain ⟨o, hc, hs⟩ := h.c
  refine ⟨?_, ?_, ⟨cA, setRow_heap _ _ _ _ _ _ hc, rfl⟩, ?_, fun i q1 q2 => ?_, fun B v q1 q2 q3 => below_setRow (h.f B v q1 q2 q3) q1 _⟩
  · rw [setRow_other _ _ _ _ h1]; exact h.a
  · rw [setRow_other _ _ _ _ h3]; exact h.b
  · obtain ⟨o, hd, hs⟩ := h.d
    exact ⟨o, by rw [setRow_other _ _ _ _ h5.symm]; exact hd, hs⟩
  · rw [setRow_other _ _ _ _ q1]; exact h.e i q1 q2
theorem J2.putB {bA bB gA gB : Nat} {cA cB : Array Value} {tA tB : TypeId} {w0 w : World} (h : J2 bA bB gA gB cA cB tA tB w0 w) (h1 : bA ≠ gB) (h3 : bB ≠ gB) (h5 : gA ≠ gB) : J2 bA bB gA gB cA cB tA tB w0 (w.setRow gB cB) := by
  obtain ⟨o, hc, hs⟩ := h.d
  refine ⟨?_, ?_, ?_, ⟨cB, setRow_heap _ _ _ _ _ _ hc, rfl⟩, fun i q1 q2 => ?_, fun B v q1 q2 q3 => below_setRow (h.f B v q1 q2 q3) q2 _⟩
  · rw [setRow_other _ _ _ _ h1]; exact h.a
  · rw [setRow_other _ _ _ _ h3]; exact h.b
  · obtain ⟨o, hd, hs⟩ := h.c
    exact ⟨o, by rw [setRow_other _ _ _ _ h5]; exact hd, hs⟩
  · rw [setRow_other _ _ _ _ q2]; exact h.e i q1 q2
def waits (o : Oper) (j : Nat) : Bool := o.after.toList.any fun e => e.on == j && Region.binds .any e
theorem waits_at {o : Oper} {j : Nat} (h : waits o j = true) : ∃ e ∈ o.after, e.on = j ∧ Region.binds .any e = true := by
  unfold waits at h
  simp only [List.any_eq_true, Bool.and_eq_true, beq_iff_eq] at h
  obtain ⟨e, he, h1, h2⟩ := h
  exact ⟨e, by simpa using he, h1, h2⟩
theorem wp_region_ret2 {P : Program} {id : Nat} {Q : Exit → Act → World → Prop} {a0 : Act} {w0 : World} {o0 o1 o2 o3 : Oper} (hm : P.follows .mixedOrders = true) (hlex : lexAll 0 [o0, o1, o2, o3] = true)
    (mk : (Nat → Value) → Act) (hmk : ∀ f, putOps a0 [o0, o1] f 0 = mk f) (f0 : Nat → Value) (h0 : mk f0 = a0)
    (hput : stepAll (fun i o => ∀ f v, (mk f).put o.dst v = mk (fun j => if j = i then v else f j)) 0 [o0, o1, o2, o3])
    (e20 : waits o2 0 = true) (e31 : waits o3 1 = true)
    (g0 : o0.guard = none) (g1 : o1.guard = none) (g2 : o2.guard = none) (g3 : o3.guard = none)
    (tA tB : TypeId) (p0 p1 q0 q1 s0 s1 : Operand) (ho0 : o0.op = .load tA p0) (ho1 : o1.op = .load tB p1) (ho2 : o2.op = .store tA q0 s0) (ho3 : o3.op = .store tB q1 s1)
    (bA bB gA gB : Nat) (hp0 : ∀ f, (mk f).eval p0 = .pointer (some ⟨bA, 0, none⟩)) (hp1 : ∀ f, (mk f).eval p1 = .pointer (some ⟨bB, 0, none⟩))
    (hq0 : ∀ f, (mk f).eval q0 = .pointer (some ⟨gA, 0, none⟩)) (hq1 : ∀ f, (mk f).eval q1 = .pointer (some ⟨gB, 0, none⟩)) (hs0 : ∀ f, (mk f).eval s0 = f 0) (hs1 : ∀ f, (mk f).eval s1 = f 1)
    (cA cB oA oB : Array Value) (dA dB : TypeDesc) (hA : w0.heap[bA]? = some (.cells cA tA (0, 0))) (hB : w0.heap[bB]? = some (.cells cB tB (0, 0))) (hGA : w0.heap[gA]? = some (.cells oA tA (0, 0))) (hGB : w0.heap[gB]? = some (.cells oB tB (0, 0)))
    (zA : oA.size = cA.size) (zB : oB.size = cB.size) (uA : P.underlying tA = some dA) (vA : (match dA with | .struct _ | .array _ _ => true | _ => false) = true) (uB : P.underlying tB = some dB) (vB : (match dB with | .struct _ | .array _ _ => true | _ => false) = true)
    (iA : (P.info? tA).map (·.size) = some cA.size) (iB : (P.info? tB).map (·.size) = some cB.size) (c1 : cA.all (·.oneCell') = true) (c2 : cB.all (·.oneCell') = true)
    (n1 : bA ≠ gA) (n2 : bA ≠ gB) (n3 : bB ≠ gA) (n4 : bB ≠ gB) (n5 : gA ≠ gB)
    (h : ∀ wz, wz.heap[gA]? = some (.cells cA tA (0, 0)) → wz.heap[gB]? = some (.cells cB tB (0, 0)) → (∀ i, i ≠ gA → i ≠ gB → wz.heap[i]? = w0.heap[i]?) → (∀ B (v : World), B ≤ gA → B ≤ gB → Below B v w0 → Below B v wz) →
      Q .normal (mk (fun j => if j = 0 then .agg cA else .agg cB)) wz) :
    (Code.region id [o0, o1, o2, o3].toArray true).wp P Q a0 w0 := by
  refine wp_region_typed hm (fun i o ho e he hb => by have := lexAll_at hlex ho e he hb; omega) mk f0 h0 (fun i o ho => by have := stepAll_at hput ho; rw [Nat.zero_add] at this; exact this)
    (J2 bA bB gA gB cA cB tA tB w0) (fun w w' => (w.heap[gA]? = some (.cells cA tA (0, 0)) → w'.heap[gA]? = some (.cells cA tA (0, 0))) ∧ (w.heap[gB]? = some (.cells cB tB (0, 0)) → w'.heap[gB]? = some (.cells cB tB (0, 0)))) (T2 gA gB cA cB tA tB) ?_ ?_ ?_ ?_
  · exact ⟨hA, hB, ⟨oA, hGA, zA⟩, ⟨oB, hGB, zB⟩, fun i _ _ => rfl, fun B v _ _ hb => below_drewN hb 1⟩
  · rintro i v w w' ht ⟨r1, r2⟩
    match i, ht with
    | 0, ht => exact ht
    | 1, ht => exact ht
    | 2, ht => exact r1 ht
    | 3, ht => exact r2 ht
    | i + 4, _ => trivial
  · intro f w hj ht
    have t0 : f 0 = .agg cA := ht 0 (by simp)
    have t1 : f 1 = .agg cB := ht 1 (by simp)
    have t2 := ht 2 (by simp)
    have t3 := ht 3 (by simp)
    have hf : mk f = mk (fun j => if j = 0 then .agg cA else .agg cB) := by
      rw [← hmk, ← hmk]
      simp only [putOps, t0, t1, if_pos, Nat.zero_add, Nat.one_ne_zero, if_false]
    rw [hf]
    exact h w t2 t3 hj.e hj.f
  · intro i o ho f w hj hd
    match i, ho with
    | 0, ho =>
      obtain rfl : o0 = o := by simpa using ho
      refine wpList_load_row g0 tA p0 ho0 bA (hp0 f) tA cA (0, 0) dA hj.a uA vA iA ?_
      exact ⟨_, rfl, ⟨fun q => q, fun q => q⟩, hj, rfl⟩
    | 1, ho =>
      obtain rfl : o1 = o := by simpa using ho
      refine wpList_load_row g1 tB p1 ho1 bB (hp1 f) tB cB (0, 0) dB hj.b uB vB iB ?_
      exact ⟨_, rfl, ⟨fun q => q, fun q => q⟩, hj, rfl⟩
    | 2, ho =>
      obtain rfl : o2 = o := by simpa using ho
      obtain ⟨e, he, h1, h2⟩ := waits_at e20
      have t0 := hd e he h2
      rw [h1] at t0
      obtain ⟨oc, hoc, hsz⟩ := hj.c
      refine wpList_store_row g2 tA q0 s0 ho2 gA cA (hq0 f) ((hs0 f).trans t0) tA oc hoc iA hsz c1 ?_
      exact ⟨_, rfl, ⟨fun _ => setRow_heap _ _ _ _ _ _ hoc, fun q => by rw [setRow_other _ _ _ _ n5.symm]; exact q⟩, hj.putA n1 n3 n5, setRow_heap _ _ _ _ _ _ hoc⟩
    | 3, ho =>
      obtain rfl : o3 = o := by simpa using ho
      obtain ⟨e, he, h1, h2⟩ := waits_at e31
      have t0 := hd e he h2
      rw [h1] at t0
      obtain ⟨oc, hoc, hsz⟩ := hj.d
      refine wpList_store_row g3 tB q1 s1 ho3 gB cB (hq1 f) ((hs1 f).trans t0) tB oc hoc iB hsz c2 ?_
      exact ⟨_, rfl, ⟨fun q => by rw [setRow_other _ _ _ _ n5]; exact q, fun _ => setRow_heap _ _ _ _ _ _ hoc⟩, hj.putB n2 n4 n5, setRow_heap _ _ _ _ _ _ hoc⟩
    | i + 4, ho => simp at ho
end Go.Proofs.YtkckncggiicciaaDoor
/-
  As XRordt, with facts of any kind on the first operations' values.
-/
namespace Go.Proofs.YtkckncggiicciaaDoor
open Go Go.RowKit
theorem wp_region_tailT {P : Program} {id : Nat} {Q : Exit → Act → World → Prop} {a0 : Act} {w0 : World} {l : List Oper} (m : Nat) (hml : m < l.length) (hm : P.follows .mixedOrders = true) (hlex : lexAll 0 l = true) (hch : chained l m = true) (hfo : forced l m = true)
    (T : Nat → Value → World → Prop) (hT : ∀ i v (w w' : World), T i v w → Below w.heap.size w w' → T i v w') (mk : (Nat → Value) → Act) (_hmk : ∀ f, putOps a0 (l.take m) f 0 = mk f) (f0 : Nat → Value) (h0 : mk f0 = a0)
    (hput : stepAll (fun i o => ∀ f v, (mk f).put o.dst v = mk (fun j => if j = i then v else f j)) 0 (l.take m))
    (hstep : stepAll (fun i o => ∀ f w, Below w0.heap.size w0 w → depAll (fun j => T j (f j) w) o.after.toList →
      wpList P l.toArray (oneQ (fun a' w' => ∃ v, a' = (mk f).put o.dst v ∧ Below w.heap.size w w' ∧ T i v w') Q) [o] (mk f) w) 0 (l.take m))
    (htail : ∀ f w, Below w0.heap.size w0 w → (∀ i, i < m → T i (f i) w) → wpList P l.toArray Q (l.drop m) (mk f) w) :
    (Code.region id l.toArray true).wp P Q a0 w0 := by
  refine wp_region_any hm ?_
  refine wpAny_inv (fun L a w => L.size = l.length ∧ (∀ i o, l[i]? = some o → L.getD i false = true → ∀ e ∈ o.after, Region.binds .any e = true → L.getD e.on false = true) ∧
      ((L.getD m false = false ∧ ∃ f, a = mk f ∧ Below w0.heap.size w0 w ∧ ∀ i, i < m → L.getD i false = true → T i (f i) w) ∨
       (∃ k, m < k ∧ k ≤ l.length ∧ (∀ i, i < k → L.getD i false = true) ∧ (∀ i, k ≤ i → L.getD i false = false) ∧ wpList P l.toArray Q (l.drop k) a w))) ?_ ?_ l.toArray.size _ _ _ ?_ ?_
  · rintro L a w hr ⟨hsz, hcl, hI⟩
    have hall : ∀ n i, i < n → i < l.length → L.getD i false = true := by
      intro n
      induction n with
      | zero => intro i h; omega
      | succ n ih =>
        intro i hi hl
        cases hc : L.getD i false with
        | true => rfl
        | false =>
          have : i ∈ Region.ready .any l.toArray L := by
            refine mem_ready.2 ⟨?_, l[i], ?_, fun e he hbb => ih e.on ?_ ?_⟩
            · rw [Array.getD_eq_getD_getElem?, Array.getElem?_eq_getElem (by omega)] at hc ⊢
              exact hc
            · rw [List.getElem?_toArray, List.getElem?_eq_getElem hl]
            · have := lexAll_at hlex (List.getElem?_eq_getElem hl) e he hbb; omega
            · have := lexAll_at hlex (List.getElem?_eq_getElem hl) e he hbb; omega
          rw [hr] at this
          cases this
    rcases hI with ⟨h1, _⟩ | ⟨k, h1, h2, h3, h4, h5⟩
    · rw [hall (m + 1) m (by omega) hml] at h1
      cases h1
    · have hk : k = l.length := by
        rcases Nat.lt_or_ge k l.length with h | h
        · have := h4 k (Nat.le_refl _)
          rw [hall (k + 1) k (by omega) h] at this
          cases this
        · omega
      rw [hk, List.drop_eq_nil_of_le (Nat.le_refl _)] at h5
      exact h5
  · rintro L a w i hi ⟨hsz, hcl, hI⟩
    obtain ⟨hnl, o, ho, hd⟩ := mem_ready.1 hi
    have ho' : l[i]? = some o := by rw [List.getElem?_toArray] at ho; exact ho
    have hil : i < l.length := (List.getElem?_eq_some_iff.1 ho').1
    have hnl' : L.getD i false = false := by
      rw [Array.getD_eq_getD_getElem?, Array.getElem?_eq_getElem (by omega)] at hnl ⊢
      exact hnl
    have hsz' : (L.setIfInBounds i true).size = l.length := by rw [Array.size_setIfInBounds]; exact hsz
    have hget : ∀ j, j ≠ i → (L.setIfInBounds i true).getD j false = L.getD j false := fun j hj => by
      rw [Array.getD_eq_getD_getElem?, Array.getElem?_setIfInBounds_ne (Ne.symm hj), ← Array.getD_eq_getD_getElem?]
    have hself : (L.setIfInBounds i true).getD i false = true := by
      rw [Array.getD_eq_getD_getElem?, Array.getElem?_setIfInBounds_self_of_lt (by omega)]
      rfl
    have hcl' : ∀ j o, l[j]? = some o → (L.setIfInBounds i true).getD j false = true → ∀ e ∈ o.after, Region.binds .any e = true → (L.setIfInBounds i true).getD e.on false = true := by
      intro j o2 hj hl e he hb
      by_cases hei : e.on = i
      · rw [hei]; exact hself
      · rw [hget _ hei]
        by_cases hji : j = i
        · subst hji
          rw [ho'] at hj
          injection hj with hj
          subst hj
          exact hd e he hb
        · rw [hget _ hji] at hl
          exact hcl j o2 hj hl e he hb
    -- an operation of the tail waits for all ahead of it
    have hback : ∀ k, k ≤ i → m ≤ i - k → m < i → L.getD m false = true := by
      have : ∀ k j, j + k = i → m ≤ j → j < i → L.getD j false = true := by
        intro k
        induction k with
        | zero => intro j h1 h2 h3; omega
        | succ k ih =>
          intro j h1 h2 h3
          by_cases hj1 : j + 1 = i
          · obtain ⟨o2, q1, e, q2, q3, q4⟩ := forced_at hfo (by omega) hil
            rw [ho'] at q1
            injection q1 with q1
            subst q1
            have := hd e q2 q4
            rw [q3, show i - 1 = j by omega] at this
            exact this
          · obtain ⟨o2, q1, e, q2, q3, q4⟩ := forced_at hfo (j := j + 1) (by omega) (by omega)
            have := hcl (j + 1) o2 q1 (ih (j + 1) (by omega) (by omega) (by omega)) e q2 q4
            rw [q3, show j + 1 - 1 = j by omega] at this
            exact this
      intro k h1 h2 h3
      exact this (i - m) m (by omega) (Nat.le_refl _) h3
    rcases hI with ⟨hmf, f, rfl, hb, ht⟩ | ⟨k, h1, h2, h3, h4, h5⟩
    · rcases Nat.lt_or_ge i m with him | him
      · -- one of the first
        have hti : (l.take m)[i]? = some o := by rw [List.getElem?_take, if_pos him]; exact ho'
        have hp := stepAll_at hput hti
        rw [Nat.zero_add] at hp
        have hst := stepAll_at hstep hti
        rw [Nat.zero_add] at hst
        have := hst f w hb (depAll_of fun e he hbd => by
          have he' : e ∈ o.after := by simpa using he
          have := lexAll_at hlex ho' e he' hbd
          exact ht e.on (by omega) (hd e he' hbd))
        refine wpOp_mono ?_ (wpOp_one ho this)
        rintro a' w' ⟨v, rfl, hbw, hv⟩
        refine ⟨hsz', hcl', .inl ⟨by rw [hget _ (by omega)]; exact hmf, _, hp f v, hb.trans (hbw.mono hb.size), fun j hj hL => ?_⟩⟩
        by_cases hji : j = i
        · rw [if_pos hji, hji]; exact hv
        · rw [if_neg hji]
          rw [hget _ hji] at hL
          exact hT _ _ _ _ (ht j hj hL) hbw
      · rcases Nat.lt_or_ge m i with hlt | hge
        · rw [hback 0 (by omega) (by omega) hlt] at hmf
          cases hmf
        · obtain rfl : i = m := by omega
          have hallf : ∀ j, j < i → L.getD j false = true := by
            have hdown : ∀ k j, i - j ≤ k → j < i → L.getD j false = true := by
              intro k
              induction k with
              | zero => intro j h1 h2; omega
              | succ k ih =>
                intro j h1 h2
                obtain ⟨k', o2, q1, q2, q3, e, q4, q5, q6⟩ := chained_at hch h2
                rcases Nat.lt_or_ge k' i with hlt | hge2
                · have := hcl k' o2 q3 (ih k' (by omega) hlt) e q4 q6
                  rw [q5] at this
                  exact this
                · obtain rfl : k' = i := by omega
                  rw [ho'] at q3
                  injection q3 with q3
                  subst q3
                  have := hd e q4 q6
                  rw [q5] at this
                  exact this
            exact fun j hj => hdown i j (by omega) hj
          have hnone : ∀ j, i < j → L.getD j false = false := fun j hj => by
            cases hq : L.getD j false with
            | false => rfl
            | true =>
              exfalso
              have : ∀ d j, j = i + 1 + d → L.getD j false = true → False := by
                intro d
                induction d with
                | zero =>
                  intro j hj hq
                  have hjl : j < l.length := by
                    rcases Nat.lt_or_ge j l.length with h | h
                    · exact h
                    · rw [Array.getD_eq_getD_getElem?, Array.getElem?_eq_none (by omega)] at hq; cases hq
                  obtain ⟨o2, q1, e, q2, q3, q4⟩ := forced_at hfo (j := j) (by omega) hjl
                  have := hcl j o2 q1 hq e q2 q4
                  rw [q3, show j - 1 = i by omega, hnl'] at this
                  cases this
                | succ d ih =>
                  intro j hj hq
                  have hjl : j < l.length := by
                    rcases Nat.lt_or_ge j l.length with h | h
                    · exact h
                    · rw [Array.getD_eq_getD_getElem?, Array.getElem?_eq_none (by omega)] at hq; cases hq
                  obtain ⟨o2, q1, e, q2, q3, q4⟩ := forced_at hfo (j := j) (by omega) hjl
                  have := hcl j o2 q1 hq e q2 q4
                  rw [q3] at this
                  exact ih (j - 1) (by omega) this
              exact this (j - (i + 1)) j (by omega) hq
          have htl := htail f w hb (fun j hj => ht j hj (hallf j hj))
          rw [drop_head ho'] at htl
          refine wpOp_mono ?_ (wpOp_of_list ho htl)
          intro a' w' h
          refine ⟨hsz', hcl', .inr ⟨i + 1, by omega, by omega, fun j hj => ?_, fun j hj => ?_, h⟩⟩
          · by_cases hji : j = i
            · rw [hji]; exact hself
            · rw [hget _ hji]; exact hallf j (by omega)
          · rw [hget _ (by omega)]
            exact hnone j (by omega)
    · have hik : i = k := by
        rcases Nat.lt_or_ge i k with h | h
        · rw [h3 i h] at hnl'
          cases hnl'
        · rcases Nat.lt_or_ge k i with h' | h'
          · obtain ⟨o2, q1, e, q2, q3, q4⟩ := forced_at hfo (j := i) (by omega) hil
            rw [ho'] at q1
            injection q1 with q1
            subst q1
            have := hd e q2 q4
            rw [q3, h4 (i - 1) (by omega)] at this
            cases this
          · omega
      subst hik
      rw [drop_head ho'] at h5
      refine wpOp_mono ?_ (wpOp_of_list ho h5)
      intro a' w' h
      refine ⟨hsz', hcl', .inr ⟨i + 1, by omega, by omega, fun j hj => ?_, fun j hj => ?_, h⟩⟩
      · by_cases hji : j = i
        · rw [hji]; exact hself
        · rw [hget _ hji]; exact h3 j (by omega)
      · rw [hget _ (by omega)]
        exact h4 j (by omega)
  · simp
  · have hz : ∀ j, (Array.replicate l.toArray.size false).getD j false = false := fun j => by
      rw [Array.getD_eq_getD_getElem?, Array.getElem?_replicate]
      split <;> rfl
    refine ⟨by simp, fun i o _ hL => ?_, .inl ⟨hz m, f0, h0.symm, ⟨rfl, rfl, rfl, Nat.le_refl _, fun _ _ => rfl⟩, fun i _ hL => ?_⟩⟩
    all_goals
      rw [hz] at hL
      cases hL
end Go.Proofs.YtkckncggiicciaaDoor
/-
  ReportPairs: what clients were told, pushed one by one into a machine's row.
-/
namespace Go.Proofs.YtkckncggiicciaaDoor
open Go.RowKit
set_option maxRecDepth 100000
theorem se_one (w : World) (s : Se) : SeRows (w.alloc (.cells s.cells.toArray 83)) (w.heap.size + 1) (some ⟨w.heap.size, 0, none⟩) 1 1 [s] := by
  have := rd_struct w s.cells 83
  unfold SeRows
  rw [List.map_cons, List.map_nil, List.flatten_cons, List.flatten_nil, List.append_nil]
  exact this
structure PushI (b : Nat) (W wr : World) (A : Option Addr) (n c : Nat) (D : Option Addr) (m e : Nat) (l : List Se) : Prop where
  kp : ∀ i, i < W.heap.size → i ≠ b → wr.heap[i]? = W.heap[i]?
  sz : W.heap.size ≤ wr.heap.size
  up : ∀ B (v : World), B ≤ b → Below B v W → Below B v wr
  row : wr.heap[b]? = some (.cells #[.slice A n c, .slice D m e] 44 (0, 0))
  own : OwnSe wr W.heap.size (.slice D m e) l
  len : l.length = m
theorem PushI.start {b : Nat} {W : World} {A : Option Addr} {n c : Nat} (h : W.heap[b]? = some (.cells #[.slice A n c, .slice none 0 0] 44 (0, 0))) : PushI b W W A n c none 0 0 [] :=
  ⟨fun _ _ _ => rfl, Nat.le_refl _, fun _ _ _ h => h, h, World.ownsRow_nil _ _ _ _, rfl⟩
theorem PushI.push {b : Nat} {W wr : World} {A : Option Addr} {n c : Nat} {D : Option Addr} {m e : Nat} {l : List Se} (h : PushI b W wr A n c D m e l) (hb : b < W.heap.size) (o : Obj) (s : Se) (v4 : Value) (w4 : World)
    (ho : OwnSe w4 W.heap.size v4 (l ++ [s])) (hg : (wr.alloc o).grownBy w4 (Value.slice D m e).ownBlock) :
    ∃ D' e', v4 = .slice D' (m + 1) e' ∧ w4.heap[b]? = some (.cells #[.slice A n c, .slice D m e] 44 (0, 0)) ∧ Below W.heap.size wr w4 ∧
      ∀ wz : World, wz.heap[b]? = some (.cells #[.slice A n c, .slice D' (m + 1) e'] 44 (0, 0)) → (∀ j, j ≠ b → wz.heap[j]? = w4.heap[j]?) → (∀ B (v : World), B ≤ b → Below B v w4 → Below B v wz) → PushI b W wz A n c D' (m + 1) e' (l ++ [s]) := by
  have hb4 : Below W.heap.size wr w4 := ((Below.refl W.heap.size wr).alloc h.sz _).grown hg (by have := h.sz; simp; omega) (fun q hq => (World.ownsRow.lt h.own q hq).1)
  obtain ⟨D', e', rfl, _⟩ := ownSe_rows ho (n := m + 1) (by rw [List.length_append, h.len]; rfl)
  refine ⟨D', e', rfl, (hb4.block b hb).trans h.row, hb4, fun wz h1 h2 h3 => ?_⟩
  refine ⟨fun i hi hib => (h2 i hib).trans ((hb4.block i hi).trans (h.kp i hi hib)), ?_, fun B v hB hv => h3 B v hB ((h.up B v hB hv).trans (hb4.mono (by omega))), h1, own_keep ho fun g q1 q2 => h2 g (by omega), by rw [List.length_append, h.len]; rfl⟩
  have h4 := (h3 b w4 (Nat.le_refl _) (Below.refl _ _)).size
  have h5 := hb4.size
  have h6 := h.sz
  omega
theorem PushI.drew {b : Nat} {W wr : World} {A : Option Addr} {n c : Nat} {D : Option Addr} {m e : Nat} {l : List Se} (h : PushI b W wr A n c D m e l) (k : Nat) : PushI b W (wr.drewN k) A n c D m e l :=
  ⟨h.kp, h.sz, fun B v hB hv => below_drewN (h.up B v hB hv) k, h.row, own_keep h.own fun _ _ _ => rfl, h.len⟩
theorem PushI.cell {b : Nat} {W wr : World} {A : Option Addr} {n c : Nat} {D : Option Addr} {m e : Nat} {l : List Se} (h : PushI b W wr A n c D m e l) : wr.cell? ⟨b, 1, none⟩ = some (.slice D m e) := cell_of_row _ _ _ _ _ _ h.row
end Go.Proofs.YtkckncggiicciaaDoor
/-
  ReportPairs: what one more session is pushed from, in a region that draws its order.
-/
namespace Go.Proofs.YtkckncggiicciaaDoor
open Go.RowKit
set_option maxRecDepth 100000
theorem PushI.below {b : Nat} {W wr w1 : World} {A : Option Addr} {n c : Nat} {D : Option Addr} {m e : Nat} {l : List Se} (h : PushI b W wr A n c D m e l) (hb : b < W.heap.size) (h1 : Below wr.heap.size wr w1) : PushI b W w1 A n c D m e l := by
  have hz := h.sz
  exact ⟨fun i hi hib => (h1.block i (by omega)).trans (h.kp i hi hib), Nat.le_trans hz h1.size, fun B v hB hv => (h.up B v hB hv).trans (h1.mono (by omega)), (h1.block b (by omega)).trans h.row, own_below h.own h1, h.len⟩
theorem PushI.push2 {b : Nat} {W wr : World} {A : Option Addr} {n c : Nat} {D : Option Addr} {m e : Nat} {l : List Se} (h : PushI b W wr A n c D m e l) (hb : b < W.heap.size) (s : Se) (v4 : Value) (w4 : World)
    (ho : OwnSe w4 W.heap.size v4 (l ++ [s])) (hg : wr.grownBy w4 (Value.slice D m e).ownBlock) :
    ∃ D' e', v4 = .slice D' (m + 1) e' ∧ w4.heap[b]? = some (.cells #[.slice A n c, .slice D m e] 44 (0, 0)) ∧ Below W.heap.size wr w4 ∧
      ∀ wz : World, wz.heap[b]? = some (.cells #[.slice A n c, .slice D' (m + 1) e'] 44 (0, 0)) → (∀ j, j ≠ b → wz.heap[j]? = w4.heap[j]?) → (∀ B (v : World), B ≤ b → Below B v w4 → Below B v wz) → PushI b W wz A n c D' (m + 1) e' (l ++ [s]) := by
  have hb4 : Below W.heap.size wr w4 := (Below.refl W.heap.size wr).grown hg h.sz (fun q hq => (World.ownsRow.lt h.own q hq).1)
  obtain ⟨D', e', rfl, _⟩ := ownSe_rows ho (n := m + 1) (by rw [List.length_append, h.len]; rfl)
  refine ⟨D', e', rfl, (hb4.block b hb).trans h.row, hb4, fun wz h1 h2 h3 => ?_⟩
  refine ⟨fun i hi hib => (h2 i hib).trans ((hb4.block i hi).trans (h.kp i hi hib)), ?_, fun B v hB hv => h3 B v hB ((h.up B v hB hv).trans (hb4.mono (by omega))), h1, own_keep ho fun g q1 q2 => h2 g (by omega), by rw [List.length_append, h.len]; rfl⟩
  have h4 := (h3 b w4 (Nat.le_refl _) (Below.refl _ _)).size
  have h5 := hb4.size
  have h6 := h.sz
  omega
/-- What the first operations of that region yield. -/
def T22 (g w0 : Nat) (D : Option Addr) (m e b off n d i : Nat) (s : Se) : Nat → Value → World → Prop
  | 0, v, _ => v = .pointer (some ⟨g, 1, none⟩)
  | 1, v, _ => v = .slice D m e
  | 2, v, _ => v = .pointer (some ⟨w0, 1, none⟩)
  | 3, v, _ => v = .slice (some ⟨b, off, none⟩) n d
  | 4, v, _ => v = .int .i64 (i : Int)
  | 5, v, _ => v = .pointer (some ⟨b, off + i * 6, none⟩)
  | 6, v, _ => v = .agg #[.int .i64 s.cl, .int .i64 s.sq, .int .i64 s.code, .int .i64 s.v.k, .float .f64 s.v.x, .string s.v.s]
  | 7, v, w => ∃ A c, v = .slice A 1 c ∧ SeRows w w.heap.size A 1 c [s]
  | _, _, _ => True
theorem t22_below {g w0 : Nat} {D : Option Addr} {m e b off n d i : Nat} {s : Se} : ∀ (k : Nat) (v : Value) (w w' : World), T22 g w0 D m e b off n d i s k v w → Below w.heap.size w w' → T22 g w0 D m e b off n d i s k v w' := by
  intro k v w w' h hb
  match k, h with
  | 0, h | 1, h | 2, h | 3, h | 4, h | 5, h | 6, h => exact h
  | 7, ⟨A, c, e, hr⟩ => exact ⟨A, c, e, (Rd.below hr hb (Nat.le_refl _)).mono hb.size⟩
  | _ + 8, _ => trivial
theorem t22_7 (w : World) (s : Se) : ∃ A c, (Value.slice (some ⟨w.heap.size, 0, none⟩) 1 1) = .slice A 1 c ∧ SeRows (w.alloc (.cells s.cells.toArray 83)) (w.alloc (.cells s.cells.toArray 83)).heap.size A 1 c [s] :=
  ⟨_, _, rfl, by have := se_one w s; simpa using this⟩
end Go.Proofs.YtkckncggiicciaaDoor
/-
  ReportPairs: the walk of Once.
-/
namespace Go.Proofs.YtkckncggiicciaaDoor
open Go.RowKit
set_option maxRecDepth 100000
def OncePost (k : Nat) (w : World) (e : Ending) (w' : World) : Prop := (∃ (A : Option Addr) (n c : Nat) (B : Option Addr) (m d : Nat) (ps : List (ByteArray × Va)) (ss : List Se) (code : Int) (r : Va),
  e = .returned (.tuple #[.agg #[.slice A n c, .slice B m d], .agg #[.int .i64 code, .int .i64 r.k, .float .f64 r.x, .string r.s]]) ∧ ps.length = n ∧ ss.length = m ∧ OwnP w' w.heap.size (.slice A n c) ps ∧ OwnSe w' w.heap.size (.slice B m d) ss ∧
  RightP ps ∧ (∀ s ∈ ss, s.Ok) ∧ m ≤ k + 1 ∧ VaS r) ∧ Below w.heap.size w w'
theorem heap_alloc2_at (w : World) (o p : Obj) {n : Nat} (hn : w.heap.size + 1 = n) : ((w.alloc o).alloc p).heap[n]? = some p := by subst hn; exact heap_alloc2_new w o p
theorem size1p : (Tryd.prog.info? 41).map (·.size) = some 1 := by kernel_rfl
theorem size1s : (Tryd.prog.info? 42).map (·.size) = some 1 := by kernel_rfl
theorem row_cells4 {w : World} {g : Nat} {cs : Array Value} {t : TypeId} (h : w.heap[g]? = some (.cells cs t (0, 0))) (i : Nat) (v : Value) (hv : cs[i]? = some v) : w.cell? ⟨g, i, none⟩ = some v := (cell_of_row _ _ _ _ _ _ h).trans hv
set_option maxHeartbeats 25600000 in
theorem Once_any (A : Option Addr) (n c : Nat) (B : Option Addr) (k d : Nat) (x : Cl) (ps : List (ByteArray × Va)) (ss : List Se) (w : World) (hy : PrRows w w.heap.size A n c ps) (hl : ps.length = n) (hR : RightP ps) (hz : SeRows w w.heap.size B k d ss) (hsl : ss.length = k) (hso : ∀ s ∈ ss, s.Ok) (hk : k ≤ 900) (hc : x.c.Ok) :
    Calls Tryd.prog 53 #[.agg #[.slice A n c, .slice B k d], .agg x.cells.toArray] w (OncePost k w) := by
  subst hl hsl
  have h32 : ps.length ≤ 32 := hR.few
  obtain ⟨cl, sq, ⟨ck, key, ⟨ok, ox, os⟩, ⟨vk, vx, vs⟩⟩⟩ := x
  obtain ⟨W4, hW4⟩ : ∃ W4, ((((w.alloc (.cells #[.slice A ps.length c, .slice B ss.length d] 44)).alloc (.cells #[.int .i64 cl, .int .i64 sq, .int .i64 ck, .string key, .int .i64 ok, .float .f64 ox, .string os, .int .i64 vk, .float .f64 vx, .string vs] 62)).alloc (.cells #[.slice none 0 0, .slice none 0 0] 44)).alloc (.cells #[.int .i64 0, .int .i64 0, .float .f64 0, .string ⟨#[]⟩] 81)) = W4 := ⟨_, rfl⟩
  have hob : Below w.heap.size w W4 := by rw [← hW4]; exact ((two_below _ _ _).alloc (by simp <;> omega) _).alloc (by simp <;> omega) _
  have hz4 : W4.heap.size = w.heap.size + 4 := by rw [← hW4]; simp
  have hr0 : W4.heap[w.heap.size]? = some (.cells #[.slice A ps.length c, .slice B ss.length d] 44 (0, 0)) := by
    rw [← hW4, Below.heap_alloc _ _ _ (by simp <;> omega), Below.heap_alloc _ _ _ (by simp <;> omega), Below.heap_alloc _ _ _ (by simp <;> omega)]
    exact heap_alloc_new w _
  have hr1 : W4.heap[w.heap.size + 1]? = some (.cells #[.int .i64 cl, .int .i64 sq, .int .i64 ck, .string key, .int .i64 ok, .float .f64 ox, .string os, .int .i64 vk, .float .f64 vx, .string vs] 62 (0, 0)) := by
    rw [← hW4, Below.heap_alloc _ _ _ (by simp <;> omega), Below.heap_alloc _ _ _ (by simp <;> omega)]
    exact heap_alloc2_new w _ _
  have hr2 : W4.heap[w.heap.size + 2]? = some (.cells #[.slice none 0 0, .slice none 0 0] 44 (0, 0)) := by
    rw [← hW4, Below.heap_alloc _ _ _ (by simp <;> omega)]
    exact heap_alloc2_at _ _ _ (by simp)
  have hr3 : W4.heap[w.heap.size + 3]? = some (.cells #[.int .i64 0, .int .i64 0, .float .f64 0, .string ⟨#[]⟩] 81 (0, 0)) := by
    rw [← hW4]
    exact heap_alloc2_at _ _ _ (by simp)
  have Hc : Hid (∀ w', Below W4.heap.size W4 w' → w'.cell? ⟨w.heap.size, 0, none⟩ = some (.slice A ps.length c) ∧ w'.cell? ⟨w.heap.size, 1, none⟩ = some (.slice B ss.length d) ∧ w'.cell? ⟨w.heap.size + 1, 0, none⟩ = some (.int .i64 cl) ∧ w'.cell? ⟨w.heap.size + 1, 1, none⟩ = some (.int .i64 sq) ∧ w'.cell? ⟨w.heap.size + 1, 2, none⟩ = some (.int .i64 ck) ∧ w'.cell? ⟨w.heap.size + 1, 3, none⟩ = some (.string key) ∧ w'.cell? ⟨w.heap.size + 1, 4, none⟩ = some (.int .i64 ok) ∧ w'.cell? ⟨w.heap.size + 1, 5, none⟩ = some (.float .f64 ox) ∧ w'.cell? ⟨w.heap.size + 1, 6, none⟩ = some (.string os) ∧ w'.cell? ⟨w.heap.size + 1, 7, none⟩ = some (.int .i64 vk) ∧ w'.cell? ⟨w.heap.size + 1, 8, none⟩ = some (.float .f64 vx) ∧ w'.cell? ⟨w.heap.size + 1, 9, none⟩ = some (.string vs)) := fun w' hb => by
    have q0 := (hb.block w.heap.size (by omega)).trans hr0
    have q := (hb.block (w.heap.size + 1) (by omega)).trans hr1
    exact ⟨row_cells4 q0 0 _ rfl, row_cells4 q0 1 _ rfl, row_cells4 q 0 _ rfl, row_cells4 q 1 _ rfl, row_cells4 q 2 _ rfl, row_cells4 q 3 _ rfl, row_cells4 q 4 _ rfl, row_cells4 q 5 _ rfl, row_cells4 q 6 _ rfl, row_cells4 q 7 _ rfl, row_cells4 q 8 _ rfl, row_cells4 q 9 _ rfl⟩
  have HR4 : Hid (∀ w', Below W4.heap.size W4 w' → w'.heap[w.heap.size + 2]? = some (.cells #[.slice none 0 0, .slice none 0 0] 44 (0, 0))) := fun w' hb => (hb.block _ (by omega)).trans hr2
  have HR5 : Hid (∀ w', Below W4.heap.size W4 w' → w'.heap[w.heap.size + 3]? = some (.cells #[.int .i64 0, .int .i64 0, .float .f64 0, .string ⟨#[]⟩] 81 (0, 0))) := fun w' hb => (hb.block _ (by omega)).trans hr3
  have Hup : Hid (∀ w', Below W4.heap.size W4 w' → Below w.heap.size w w') := fun w' hb => hob.trans (hb.mono (by omega))
  have HE : Hid (∀ i, i < ss.length → ∃ b off, ∃ s : Se, B = some ⟨b, off, none⟩ ∧ b < w.heap.size ∧ s.Ok ∧ w.rangeAt b (off + i * 6) s.cells) := fun i hi => by
    obtain ⟨b, off, s, q1, q2, q3, q4, q5⟩ := se_row hz rfl hi
    exact ⟨b, off, s, q1, q2, hso s q4, q5⟩
  have HFin : Hid (∀ (wf : World) (A : Option Addr) (n c : Nat) (B : Option Addr) (m d : Nat) (ps' : List (ByteArray × Va)) (ss' : List Se) (code : Int) (r : Va), Below w.heap.size w wf → OwnP wf W4.heap.size (.slice A n c) ps' → OwnSe wf W4.heap.size (.slice B m d) ss' → ps'.length = n → ss'.length = m → RightP ps' → (∀ s ∈ ss', s.Ok) → m ≤ ss.length + 1 → VaS r →
      OncePost ss.length w (.returned (.tuple #[.agg #[.slice A n c, .slice B m d], .agg #[.int .i64 code, .int .i64 r.k, .float .f64 r.x, .string r.s]])) wf) := fun wf A n c B m d ps' ss' code r hb h1 h2 h3 h4 h5 h6 h7 h8 =>
    ⟨⟨A, n, c, B, m, d, ps', ss', code, r, rfl, h3, h4, own_base h1 (by omega), own_base h2 (by omega), h5, h6, h7, h8⟩, hb⟩
  have HPy : Hid (∀ w', Below W4.heap.size W4 w' → PrRows w' w'.heap.size A ps.length c ps) := fun w' hb => (Rd.below hy (Hup.out _ hb) (Nat.le_refl _)).mono (Hup.out _ hb).size
  have HPz : Hid (∀ w', Below W4.heap.size W4 w' → SeRows w' w'.heap.size B ss.length d ss) := fun w' hb => (Rd.below hz (Hup.out _ hb) (Nat.le_refl _)).mono (Hup.out _ hb).size
  have HTw : Hid (Calls Tryd.prog 73 #[.agg #[.slice A ps.length c, .slice B ss.length d]] W4 (TwinMPost ps ss W4)) := TwinMachine_any A _ c B _ d ps ss W4 (HPy.out _ (Below.refl _ _)) rfl (HPz.out _ (Below.refl _ _)) rfl (by omega) (by omega)
  obtain ⟨cc, hcc⟩ : ∃ cc : Cm, cc = ⟨ck, key, ⟨ok, ox, os⟩, ⟨vk, vx, vs⟩⟩ := ⟨_, rfl⟩
  have HCa : Hid (∀ w', Calls Tryd.prog 74 #[.agg #[.int .i64 cl, .int .i64 sq, .int .i64 ck, .string key, .int .i64 ok, .float .f64 ox, .string os, .int .i64 vk, .float .f64 vx, .string vs]] w' (CmdPost cc w')) := fun w' => by rw [hcc]; exact RCall_any ⟨cl, sq, ⟨ck, key, ⟨ok, ox, os⟩, ⟨vk, vx, vs⟩⟩⟩ w' hc
  have HMa : Hid (∀ w', Below W4.heap.size W4 w' → Calls Tryd.prog 75 #[.agg #[.slice A ps.length c, .slice B ss.length d]] w' (SomeB w')) := fun w' hb => RMachine_any A _ c B _ d ps ss w' (HPy.out _ hb) rfl hR (HPz.out _ hb) rfl hso
  have HLa : Hid (∀ w', Below W4.heap.size W4 w' → Calls Tryd.prog 76 #[.agg #[.slice A ps.length c, .slice B ss.length d], .int .i64 cl] w' (LastPostM w')) := fun w' hb => LastM_any A _ c B _ d cl ss w' (HPz.out _ hb) rfl hso
  have HDo : Hid (∀ w', Below W4.heap.size W4 w' → Calls Tryd.prog 77 #[.slice A ps.length c, .agg #[.int .i64 ck, .string key, .int .i64 ok, .float .f64 ox, .string os, .int .i64 vk, .float .f64 vx, .string vs]] w' (DoPost w')) := fun w' hb => Do_any A _ c ⟨ck, key, ⟨ok, ox, os⟩, ⟨vk, vx, vs⟩⟩ ps w' (HPy.out _ hb) rfl hR hc
  have Hkd : Hid (ss.length ≤ d ∧ d ≤ 9223372036854775807) := by have h1 := hz.2.1; have h2 := hz.2.2.1; unfold maxLen at h2; exact ⟨h1, by omega⟩
  have HRp := Lib.hid hR
  have Hso := Lib.hid hso
  have Hk := Lib.hid hk
  obtain ⟨J, hJ⟩ : ∃ J, OncePost ss.length w = J := ⟨_, rfl⟩
  rw [hJ] at HFin ⊢
  unfold Cl.cells
  dsimp only
  have HW4 := Lib.hid hW4
  have Hz4 := Lib.hid hz4
  have hst := run_store_float
  clear hW4 hz4 hJ hy hz hR hso hk hr0 hr1 hr2 hr3 hob hc hcc
  go_enter Tryd.func53, Tryd.ntmps53
  go_wp2_with fail
  rw [HW4.out]
  refine HTw.out.mono ?_
  rintro e w5 ⟨⟨A1, c1, B1, d1, rfl, ho5, hs5⟩, hb5⟩
  clear HTw
  go_wp2_with (
    (refine wpList_store_local rfl 44 (.tmp 6) _ rfl [.slice A1 ps.length c1, .slice B1 ss.length d1] rfl rfl size2m rfl (by simp [Value.oneCell']) ?_
     intro w6 q6 hb6 hz6
     have hB6 := bstep hb5 hb6
     obtain ⟨m0, m1, e0, e1, e2, e3, e4, e5, e6, e7, e8, e9⟩ := Hc.out _ hB6))
  have Hop6 : Hid (OwnP w6 W4.heap.size (.slice A1 ps.length c1) ps) := own_below ho5 hb6
  have Hos6 : Hid (OwnSe w6 W4.heap.size (.slice B1 ss.length d1) ss) := own_below hs5 hb6
  have hL6 : w5.heap.size < w6.heap.size := by omega
  have HK6 : Hid (∀ w', Below w6.heap.size w6 w' → w'.cell? ⟨w5.heap.size, 0, none⟩ = some (.slice A1 ps.length c1) ∧ w'.cell? ⟨w5.heap.size, 1, none⟩ = some (.slice B1 ss.length d1)) := fun w' hb => by
    have q := (hb.block w5.heap.size hL6).trans q6
    exact ⟨cell_of_row _ _ _ _ _ _ q, cell_of_row _ _ _ _ _ _ q⟩
  have HR6 : Hid (∀ w', Below w6.heap.size w6 w' → w'.heap[w5.heap.size]? = some (.cells #[.slice A1 ps.length c1, .slice B1 ss.length d1] 44 (0, 0))) := fun w' hb => (hb.block w5.heap.size hL6).trans q6
  have HL5 : Hid (W4.heap.size ≤ w5.heap.size) := hb5.size
  clear ho5 hs5 q6 hb6
  refine (HCa.out _).mono ?_
  rintro e w7 ⟨⟨nn, rfl, hn⟩, hb7⟩
  have hB7 := bstep hB6 hb7
  have Hn := Lib.hid hn
  have h67 := hb7
  clear hn m0 m1 e0 e1 e2 e3 e4 e5 e6 e7 e8 e9 HCa
  obtain ⟨j0, j1⟩ := HK6.out _ h67
  rcases Decidable.em (nn = 0) with hn0 | hn0
  case inr =>
    have b1 : (nn == 0) = false := by simpa using hn0
    have b2 : (nn != 0) = true := by simpa using hn0
    clear hn0
    have Hr4 := Lib.hid (HR4.out _ hB7)
    have Hr5 := Lib.hid (HR5.out _ hB7)
    have hz4 := Hz4.out
    have hbu := Hup.out _ hB7
    go_wp2_with (first
      | (refine wpList_store_rowV rfl 44 (.tmp 4) (.tmp 26) rfl (w.heap.size + 2) #[.slice A1 ps.length c1, .slice B1 ss.length d1] rfl rfl 44 _ Hr4.out size2m rfl (mach_one _ _ _ _ _ _) ?_
         intro wx nx4 nex4 nbx4
         have r5x := Lib.hid ((nex4 (w.heap.size + 3) (by omega)).trans Hr5.out))
      | (refine wpList_store_rowV rfl 81 (.tmp 5) (.tmp 28) rfl (w.heap.size + 3) #[.int .i64 nn, .int .i64 0, .float .f64 0, .string ⟨#[]⟩] rfl rfl 81 _ r5x.out size4r rfl (reply_one _ _ _ _) ?_
         intro wy ny5 ney5 nby5))
    refine bodyPost_ret (results_mr Tryd.results53 _ _ (w.heap.size + 2) (w.heap.size + 3) _ _ _ _ _ _ rfl rfl ((ney5 _ (by omega)).trans nx4) ny5) rfl ?_
    exact HFin.out wy A1 ps.length c1 B1 ss.length d1 _ _ nn ⟨0, 0, ⟨#[]⟩⟩ (nby5 _ _ (by omega) (nbx4 _ _ (by omega) hbu)) (own_keep (own_below Hop6.out h67) fun g h1 h2 => (ney5 g (by omega)).trans (nex4 g (by omega))) (own_keep (own_below Hos6.out h67) fun g h1 h2 => (ney5 g (by omega)).trans (nex4 g (by omega))) rfl rfl HRp.out Hso.out (by omega) vas_zero
  case inl =>
    subst hn0
    have HcR := Lib.hid (Hn.out rfl)
    clear Hn
    obtain ⟨m0, m1, e0, e1, e2, e3, e4, e5, e6, e7, e8, e9⟩ := Hc.out _ hB7
    go_wp2_with fail
    refine (HMa.out _ hB7).mono ?_
    rintro e w8 ⟨⟨q, rfl⟩, hb8⟩
    have hB8 := bstep hB7 hb8
    have h68 := bstep h67 hb8
    clear m0 m1 e0 e1 e2 e3 e4 e5 e6 e7 e8 e9 j0 j1 HMa
    obtain ⟨j0, j1⟩ := HK6.out _ h68
    cases q
    · skip
      have Hr4 := Lib.hid (HR4.out _ hB8)
      have Hr5 := Lib.hid (HR5.out _ hB8)
      have hz4 := Hz4.out
      have hbu := Hup.out _ hB8
      go_wp2_with (first
        | (refine wpList_store_rowV rfl 44 (.tmp 4) (.tmp 26) rfl (w.heap.size + 2) #[.slice A1 ps.length c1, .slice B1 ss.length d1] rfl rfl 44 _ Hr4.out size2m rfl (mach_one _ _ _ _ _ _) ?_
           intro wx nx4 nex4 nbx4
           have r5x := Lib.hid ((nex4 (w.heap.size + 3) (by omega)).trans Hr5.out))
        | (refine wpList_store_rowV rfl 81 (.tmp 5) (.tmp 28) rfl (w.heap.size + 3) #[.int .i64 6, .int .i64 0, .float .f64 0, .string ⟨#[]⟩] rfl rfl 81 _ r5x.out size4r rfl (reply_one _ _ _ _) ?_
           intro wy ny5 ney5 nby5))
      refine bodyPost_ret (results_mr Tryd.results53 _ _ (w.heap.size + 2) (w.heap.size + 3) _ _ _ _ _ _ rfl rfl ((ney5 _ (by omega)).trans nx4) ny5) rfl ?_
      exact HFin.out wy A1 ps.length c1 B1 ss.length d1 _ _ 6 ⟨0, 0, ⟨#[]⟩⟩ (nby5 _ _ (by omega) (nbx4 _ _ (by omega) hbu)) (own_keep (own_below Hop6.out h68) fun g h1 h2 => (ney5 g (by omega)).trans (nex4 g (by omega))) (own_keep (own_below Hos6.out h68) fun g h1 h2 => (ney5 g (by omega)).trans (nex4 g (by omega))) rfl rfl HRp.out Hso.out (by omega) vas_zero
    · obtain ⟨m0, m1, e0, e1, e2, e3, e4, e5, e6, e7, e8, e9⟩ := Hc.out _ hB8
      go_wp2_with fail
      refine (HLa.out _ hB8).mono ?_
      rintro e w9 ⟨⟨sn, code, ⟨lk, lx, ls⟩, rfl, hlv⟩, hb9⟩
      have hB9 := bstep hB8 hb9
      have h69 := bstep h68 hb9
      have Hlv := Lib.hid hlv
      clear m0 m1 e0 e1 e2 e3 e4 e5 e6 e7 e8 e9 j0 j1 HLa hlv
      rcases Decidable.em (sq = sn) with hq | hq
      · have b1 : (sq == sn) = true := by simpa using hq
        clear hq
        go_wp2_with (
          (refine wpList_store_local rfl 81 (.tmp 9) _ rfl [.int .i64 code, .int .i64 lk, .float .f64 lx, .string ls] rfl rfl size4r rfl (by simp [Value.oneCell']) ?_
           intro w10 q10 hb10 hz10
           have hB10 := bstep hB9 hb10
           have h610 := bstep h69 hb10
           have HR9 : Hid (∀ w', Below w10.heap.size w10 w' → w'.heap[w9.heap.size]? = some (.cells #[.int .i64 code, .int .i64 lk, .float .f64 lx, .string ls] 81 (0, 0))) := fun w' hb => (hb.block _ (by omega)).trans q10
           have hL9 : w9.heap.size < w10.heap.size := by omega
           have hL69 : w6.heap.size ≤ w9.heap.size := h69.size
           have h910 := hb10
           clear hb10 q10 hz10
           obtain ⟨j0, j1⟩ := HK6.out _ h610
           obtain ⟨m0, m1, e0, e1, e2, e3, e4, e5, e6, e7, e8, e9⟩ := Hc.out _ hB10))
        have Hr4 := Lib.hid (HR4.out _ hB10)
        have Hr5 := Lib.hid (HR5.out _ hB10)
        have Hr6 := Lib.hid (HR6.out _ h610)
        have Hr9 := Lib.hid (HR9.out _ (Below.refl _ _))
        have hz4 := Hz4.out
        have hL45 : W4.heap.size ≤ w5.heap.size := HL5.out
        have hbu := Hup.out _ hB10
        with_reducible refine wp_region_ret2 (by kernel_rfl) (by kernel_rfl) ?mkp (fun f => ?hmkp) ?f0p ?h0p ?hputp (by kernel_rfl) (by kernel_rfl) (by rfl) (by rfl) (by rfl) (by rfl) 44 81 (.tmp 6) (.tmp 9) (.tmp 4) (.tmp 5) (.tmp 41) (.tmp 42) (by rfl) (by rfl) (by rfl) (by rfl) w5.heap.size w9.heap.size (w.heap.size + 2) (w.heap.size + 3) (fun f => ?pap) (fun f => ?pbp) (fun f => ?pcp) (fun f => ?pdp) (fun f => ?pep) (fun f => ?pfp) #[.slice A1 ps.length c1, .slice B1 ss.length d1] #[.int .i64 code, .int .i64 lk, .float .f64 lx, .string ls] #[.slice none 0 0, .slice none 0 0] #[.int .i64 0, .int .i64 0, .float .f64 0, .string ⟨#[]⟩] _ _ Hr6.out Hr9.out Hr4.out Hr5.out ?z1 ?z2 Tryd.underlying44 ?z3 Tryd.underlying81 ?z4 ?z5 ?z6 (mach_one _ _ _ _ _ _) (reply_one _ _ _ _) (by omega) (by omega) (by omega) (by omega) (by omega) ?hzp
        case hmkp =>
          simp only [putOps, Act.put, List.setIfInBounds_toArray, List.set_cons_succ, List.set_cons_zero, Nat.zero_add]
          rfl
        case f0p => exact fun k => ([undef, undef] : List Value).getD k undef
        case h0p => exact rfl
        case hputp =>
          repeat (refine ⟨fun f v => rfl, ?_⟩)
          exact trivial
        case z1 => first | rfl | exact size2m | exact size4r
        case z2 => first | rfl | exact size2m | exact size4r
        case z3 => first | rfl | exact size2m | exact size4r
        case z4 => first | rfl | exact size2m | exact size4r
        case z5 => first | rfl | exact size2m | exact size4r
        case z6 => first | rfl | exact size2m | exact size4r
        case pap => exact rfl
        case pbp => exact rfl
        case pcp => exact rfl
        case pdp => exact rfl
        case pep => exact rfl
        case pfp => exact rfl
        case hzp =>
          intro wz nz4 nz5 nez nbz
          go_wp2_with fail
          refine bodyPost_ret (results_mr Tryd.results53 _ _ (w.heap.size + 2) (w.heap.size + 3) _ _ _ _ _ _ rfl rfl nz4 nz5) rfl ?_
          exact HFin.out wz A1 ps.length c1 B1 ss.length d1 _ _ code ⟨lk, lx, ls⟩ (nbz _ _ (by omega) (by omega) hbu) (own_keep (own_below Hop6.out h610) fun g h1 h2 => nez g (by omega) (by omega)) (own_keep (own_below Hos6.out h610) fun g h1 h2 => nez g (by omega) (by omega)) rfl rfl HRp.out Hso.out (by omega) Hlv.out
      have b1 : (sq == sn) = false := by simpa using hq
      clear hq
      rcases Int.lt_or_le sq sn with hq | hq
      · skip
        go_wp2_with (first
          | (refine wpList_store_local rfl 81 (.tmp 9) _ rfl [.int .i64 code, .int .i64 lk, .float .f64 lx, .string ls] rfl rfl size4r rfl (by simp [Value.oneCell']) ?_
             intro w10 q10 hb10 hz10
             have hB10 := bstep hB9 hb10
             have h610 := bstep h69 hb10
             have HR9 : Hid (∀ w', Below w10.heap.size w10 w' → w'.heap[w9.heap.size]? = some (.cells #[.int .i64 code, .int .i64 lk, .float .f64 lx, .string ls] 81 (0, 0))) := fun w' hb => (hb.block _ (by omega)).trans q10
             have hL9 : w9.heap.size < w10.heap.size := by omega
             have hL69 : w6.heap.size ≤ w9.heap.size := h69.size
             have h910 := hb10
             clear hb10 q10 hz10
             obtain ⟨j0, j1⟩ := HK6.out _ h610
             obtain ⟨m0, m1, e0, e1, e2, e3, e4, e5, e6, e7, e8, e9⟩ := Hc.out _ hB10
             have Hr4 := Lib.hid (HR4.out _ hB10)
             have Hr5 := Lib.hid (HR5.out _ hB10)
             have hz4 := Hz4.out
             have hbu := Hup.out _ hB10)
          | (refine wpList_store_rowV rfl 44 (.tmp 4) (.tmp 48) rfl (w.heap.size + 2) #[.slice A1 ps.length c1, .slice B1 ss.length d1] rfl rfl 44 _ Hr4.out size2m rfl (mach_one _ _ _ _ _ _) ?_
             intro wx nx4 nex4 nbx4
             have r5x := Lib.hid ((nex4 (w.heap.size + 3) (by omega)).trans Hr5.out))
          | (refine wpList_store_rowV rfl 81 (.tmp 5) (.tmp 49) rfl (w.heap.size + 3) #[.int .i64 10, .int .i64 0, .float .f64 0, .string ⟨#[]⟩] rfl rfl 81 _ r5x.out size4r rfl (reply_one _ _ _ _) ?_
             intro wy ny5 ney5 nby5))
        refine bodyPost_ret (results_mr Tryd.results53 _ _ (w.heap.size + 2) (w.heap.size + 3) _ _ _ _ _ _ rfl rfl ((ney5 _ (by omega)).trans nx4) ny5) rfl ?_
        exact HFin.out wy A1 ps.length c1 B1 ss.length d1 _ _ 10 ⟨0, 0, ⟨#[]⟩⟩ (nby5 _ _ (by omega) (nbx4 _ _ (by omega) hbu)) (own_keep (own_below Hop6.out h610) fun g h1 h2 => (ney5 g (by omega)).trans (nex4 g (by omega))) (own_keep (own_below Hos6.out h610) fun g h1 h2 => (ney5 g (by omega)).trans (nex4 g (by omega))) rfl rfl HRp.out Hso.out (by omega) vas_zero
      have b2 : ¬ sq < sn := by omega
      go_wp2_with (first
        | (refine wpList_store_local rfl 81 (.tmp 9) _ rfl [.int .i64 code, .int .i64 lk, .float .f64 lx, .string ls] rfl rfl size4r rfl (by simp [Value.oneCell']) ?_
           intro w10 q10 hb10 hz10
           have hB10 := bstep hB9 hb10
           have h610 := bstep h69 hb10
           have HR9 : Hid (∀ w', Below w10.heap.size w10 w' → w'.heap[w9.heap.size]? = some (.cells #[.int .i64 code, .int .i64 lk, .float .f64 lx, .string ls] 81 (0, 0))) := fun w' hb => (hb.block _ (by omega)).trans q10
           have hL9 : w9.heap.size < w10.heap.size := by omega
           have hL69 : w6.heap.size ≤ w9.heap.size := h69.size
           have h910 := hb10
           clear hb10 q10 hz10
           obtain ⟨j0, j1⟩ := HK6.out _ h610
           obtain ⟨m0, m1, e0, e1, e2, e3, e4, e5, e6, e7, e8, e9⟩ := Hc.out _ hB10)
        | (refine wpList_store_local rfl 44 (.tmp 10) _ rfl [.slice none 0 0, .slice none 0 0] rfl rfl size2m rfl (by simp [Value.oneCell']) ?_
           intro w11 q11 hb11 hz11
           have hB11 := bstep hB10 hb11
           clear m0 m1 e0 e1 e2 e3 e4 e5 e6 e7 e8 e9 j0 j1
           obtain ⟨m0, m1, e0, e1, e2, e3, e4, e5, e6, e7, e8, e9⟩ := Hc.out _ hB11))
      have hL10 : w10.heap.size + 1 = w11.heap.size := by omega
      have r11 := q11
      have h1011 := hb11
      clear hb11 q11 hz11
      refine (HDo.out _ hB11).mono ?_
      rintro e w12 ⟨⟨v12, ps2, code2, ⟨rk, rx, rs⟩, rfl, ho12, hR2, hv2⟩, hb12⟩
      have hB12 := bstep hB11 hb12
      obtain ⟨n2, hn2⟩ : ∃ n2, ps2.length = n2 := ⟨_, rfl⟩
      obtain ⟨A2, c2, rfl, hrw⟩ := ownP_rows ho12 hn2
      have r10h : Hid (w12.heap[w10.heap.size]? = some (.cells #[.slice none 0 0, .slice none 0 0] 44 (0, 0))) := (hb12.block _ (by omega)).trans r11
      have r9h := Lib.hid (HR9.out _ (bstep h1011 hb12))
      have Hn2 := Lib.hid hn2
      have HR2 := Lib.hid hR2
      have Hv2 := Lib.hid hv2
      have Ho12 := Lib.hid ho12
      have hL12 := hb12.size
      have hz4 := Hz4.out
      have hL45 : W4.heap.size ≤ w5.heap.size := HL5.out
      clear hn2 hR2 hv2 ho12 hrw r11 hb12 h1011 m0 m1 e0 e1 e2 e3 e4 e5 e6 e7 e8 e9 HDo HPy HPz b1 hq
      go_wp2_with (first
        | (refine wpList_store_sliceV rfl 41 (.tmp 59) (.tmp 57) rfl w10.heap.size 0 A2 n2 c2 rfl rfl 44 _ r10h.out (by simp) size1p ?_
           intro w13 q13 ne13 nb13
           have r9i := Lib.hid ((ne13 w9.heap.size (by omega)).trans r9h.out))
        | (refine wpList_store_rowV rfl 81 (.tmp 9) (.tmp 58) rfl w9.heap.size #[.int .i64 code2, .int .i64 rk, .float .f64 rx, .string rs] rfl rfl 81 _ r9i.out size4r rfl (reply_one _ _ _ _) ?_
           intro w14 q14 ne14 nb14))
      have hL13 := (nb13 w10.heap.size w12 (Nat.le_refl _) (Below.refl _ _)).size
      have hL14 := (nb14 w9.heap.size w13 (Nat.le_refl _) (Below.refl _ _)).size
      have hB14 : Below W4.heap.size W4 w14 := nb14 _ _ (by omega) (nb13 _ _ (by omega) hB12)
      have Ho14 : Hid (OwnP w14 w11.heap.size (.slice A2 n2 c2) ps2) := own_keep Ho12.out fun g h1 h2 => (ne14 g (by omega)).trans (ne13 g (by omega))
      have HI0 : Hid (PushI w10.heap.size w14 w14 A2 n2 c2 none 0 0 []) := PushI.start ((ne14 _ (by omega)).trans q13)
      have HB14 := Lib.hid hB14
      have Q14 := Lib.hid q14
      clear hB14 q13 q14 ne13 ne14 nb13 nb14 r9i r9h r10h Ho12
      go_loopg [11, 12] ss.length (fun g s11 s12 wr => ∃ (i : Nat) (dn : Bool) (D : Option Addr) (m e : Nat) (l : List Se), i + g = ss.length ∧ s11 = .bool dn ∧ s12 = .int .i64 i ∧ PushI w10.heap.size w14 wr A2 n2 c2 D m e l ∧ (∀ s ∈ l, s.Ok) ∧ m ≤ i + (if dn then 1 else 0))
      case atStart => exact ⟨0, false, none, 0, 0, [], by omega, rfl, rfl, HI0.out, by simp, by simp⟩
      case round =>
        obtain ⟨i, dn, D, m, e, l, hig, rfl, rfl, hI, hlo, hle⟩ := hrel
        have Hig := Lib.hid hig
        have HI := Lib.hid hI
        have Hlo := Lib.hid hlo
        have Hle := Lib.hid hle
        have hin : i ≤ ss.length := by omega
        have hBr : Below W4.heap.size W4 wr := hI.up _ _ (by omega) HB14.out
        have hr9 : wr.heap[w9.heap.size]? = some (.cells #[.int .i64 code2, .int .i64 rk, .float .f64 rx, .string rs] 81 (0, 0)) := (hI.kp _ (by omega) (by omega)).trans Q14.out
        obtain ⟨m0, m1, e0, e1, e2, e3, e4, e5, e6, e7, e8, e9⟩ := Hc.out _ hBr
        have p1 := hI.cell
        have t0 := row_cells4 hr9 0 _ rfl
        have t1 := row_cells4 hr9 1 _ rfl
        have t2 := row_cells4 hr9 2 _ rfl
        have t3 := row_cells4 hr9 3 _ rfl
        have HBr := Lib.hid hBr
        clear hig hI hlo hle hBr hr9 HI0
        by_cases hlt : i < ss.length
        · obtain ⟨b, off, s, rfl, hb, hsk, hrg⟩ := HE.out i hlt
          obtain ⟨scl, ssq, scode, ⟨sk, sx, sstr⟩⟩ := s
          have Hr0 := Lib.hid hrg
          have Hrg := Lib.hid (range_below hrg (Hup.out _ HBr.out) hb)
          have x0 : wr.cell? ⟨b, off + i * 6, none⟩ = some (.int .i64 scl) := by have := Hrg.out 0 _ rfl; rw [Nat.add_zero] at this; exact this
          have i0 : (0 : Int) ≤ (i : Int) := by omega
          have i1 : (i : Int) < (ss.length : Int) := by omega
          have Hsk := Lib.hid hsk
          have hkd : ss.length ≤ d := Hkd.out.1
          have hdm : d ≤ 9223372036854775807 := Hkd.out.2
          clear hrg hsk HE
          cases dn
          · cases hc1 : decide (cl ≤ scl)
            · go_wp2_with fail
              go_quiet (fail)
              obtain ⟨wq, hwq⟩ : ∃ wn : World, World.drewN wr nq = wn := ⟨_, rfl⟩
              have HIq : Hid (PushI w10.heap.size w14 wq A2 n2 c2 D m e l) := by unfold Hid; rw [← hwq]; exact HI.out.drew nq
              rw [hwq]
              clear hwq
              clear m0 m1 e0 e1 e2 e3 e4 e5 e6 e7 e8 e9 p1 t0 t1 t2 t3 x0
              have hBq : Below W4.heap.size W4 wq := HIq.out.up _ _ (by omega) HB14.out
              obtain ⟨m0, m1, e0, e1, e2, e3, e4, e5, e6, e7, e8, e9⟩ := Hc.out _ hBq
              have p1 := HIq.out.cell
              have hr9 : wq.heap[w9.heap.size]? = some (.cells #[.int .i64 code2, .int .i64 rk, .float .f64 rx, .string rs] 81 (0, 0)) := (HIq.out.kp _ (by omega) (by omega)).trans Q14.out
              have t0 := row_cells4 hr9 0 _ rfl
              have t1 := row_cells4 hr9 1 _ rfl
              have t2 := row_cells4 hr9 2 _ rfl
              have t3 := row_cells4 hr9 3 _ rfl
              have x0 : wq.cell? ⟨b, off + i * 6, none⟩ = some (.int .i64 scl) := by have := (range_below Hr0.out (Hup.out _ hBq) hb) 0 _ rfl; rw [Nat.add_zero] at this; exact this
              clear hr9 hBq
              go_wp2_with fail
              rcases Decidable.em (scl = cl) with hq | hq
              · have b2 : (scl == cl) = true := by simpa using hq
                clear hq
                go_quiet (fail)
                go_wp2_with fail
                go_roundg (gk - 1)
                case rel => exact ⟨i + 1, false, D, m, e, l, by have := Hig.out; omega, rfl, by go_num, HIq.out.drew _, Hlo.out, by have := Hle.out; simp at *; omega⟩
                case measure => have := Hig.out; omega
              · have b2 : (scl == cl) = false := by simpa using hq
                clear hq
                go_quiet (fail)
                obtain ⟨wu, hwq⟩ : ∃ wn : World, World.drewN wq nq = wn := ⟨_, rfl⟩
                have HIu : Hid (PushI w10.heap.size w14 wu A2 n2 c2 D m e l) := by unfold Hid; rw [← hwq]; exact HIq.out.drew nq
                rw [hwq]
                clear hwq
                clear m0 m1 e0 e1 e2 e3 e4 e5 e6 e7 e8 e9 p1 t0 t1 t2 t3 x0
                have hBq : Below W4.heap.size W4 wu := HIu.out.up _ _ (by omega) HB14.out
                obtain ⟨m0, m1, e0, e1, e2, e3, e4, e5, e6, e7, e8, e9⟩ := Hc.out _ hBq
                have p1 := HIu.out.cell
                have hr9 : wu.heap[w9.heap.size]? = some (.cells #[.int .i64 code2, .int .i64 rk, .float .f64 rx, .string rs] 81 (0, 0)) := (HIu.out.kp _ (by omega) (by omega)).trans Q14.out
                have t0 := row_cells4 hr9 0 _ rfl
                have t1 := row_cells4 hr9 1 _ rfl
                have t2 := row_cells4 hr9 2 _ rfl
                have t3 := row_cells4 hr9 3 _ rfl
                have x0 : wu.cell? ⟨b, off + i * 6, none⟩ = some (.int .i64 scl) := by have := (range_below Hr0.out (Hup.out _ hBq) hb) 0 _ rfl; rw [Nat.add_zero] at this; exact this
                clear hr9 hBq
                go_wp2_with fail
                have HX : Hid (∀ w', Below wu.heap.size wu w' → w'.cell? ⟨w10.heap.size, 1, none⟩ = some (.slice D m e) ∧ w'.cell? ⟨w.heap.size, 1, none⟩ = some (.slice (some ⟨b, off, none⟩) ss.length d) ∧ w'.rangeAt b (off + i * 6) [.int .i64 scl, .int .i64 ssq, .int .i64 scode, .int .i64 sk, .float .f64 sx, .string sstr]) := fun w' hb' => by
                  have hBu := bstep (HIu.out.up _ _ (by omega) HB14.out) hb'
                  exact ⟨(PushI.below HIu.out (by omega) hb').cell, (Hc.out _ hBu).2.1, range_below Hr0.out (Hup.out _ hBu) hb⟩
                with_reducible refine wp_region_tailT 8 (by decide) (by kernel_rfl) (by kernel_rfl) (by kernel_rfl) (by kernel_rfl) (T22 w10.heap.size w.heap.size D m e b off ss.length d i ⟨scl, ssq, scode, ⟨sk, sx, sstr⟩⟩) t22_below ?mkx (fun f => ?hmkx) ?f0x ?h0x ?hputx ?hstepx ?htailx
                case hmkx =>
                  simp only [List.take_succ_cons, List.take_zero, putOps, Act.put, List.setIfInBounds_toArray, List.set_cons_succ, List.set_cons_zero, Nat.zero_add, Nat.reduceAdd]
                  rfl
                case f0x => exact fun k => ([u100, u101, u102, u103, u104, u105, u106, u107] : List Value).getD k undef
                case h0x => exact rfl
                case hputx =>
                  simp only [List.take_succ_cons, List.take_zero]
                  repeat (refine ⟨fun f v => rfl, ?_⟩)
                  exact trivial
                case hstepx =>
                  simp only [List.take_succ_cons, List.take_zero]
                  refine ⟨fun f w1 hb1 hd => ?_, ?_⟩
                  · clear hd
                    go_wp2_with fail
                    exact ⟨_, by first | rfl | simp only [Act.put, List.setIfInBounds_toArray, List.set_cons_succ, List.set_cons_zero], Below.refl _ _, rfl⟩
                  refine ⟨fun f w1 hb1 hd => ?_, ?_⟩
                  · obtain ⟨d0, -⟩ := hd
                    have q0 : f 0 = .pointer (some ⟨w10.heap.size, 1, none⟩) := d0
                    clear d0
                    obtain ⟨z0, z1, z2⟩ := HX.out w1 hb1
                    have Z2 := Lib.hid z2
                    clear z2
                    go_wp2_with fail
                    exact ⟨_, by first | rfl | simp only [q0, Act.put, List.setIfInBounds_toArray, List.set_cons_succ, List.set_cons_zero], Below.refl _ _, rfl⟩
                  refine ⟨fun f w1 hb1 hd => ?_, ?_⟩
                  · clear hd
                    go_wp2_with fail
                    exact ⟨_, by first | rfl | simp only [Act.put, List.setIfInBounds_toArray, List.set_cons_succ, List.set_cons_zero], Below.refl _ _, rfl⟩
                  refine ⟨fun f w1 hb1 hd => ?_, ?_⟩
                  · obtain ⟨d0, -⟩ := hd
                    have q2 : f 2 = .pointer (some ⟨w.heap.size, 1, none⟩) := d0
                    clear d0
                    obtain ⟨z0, z1, z2⟩ := HX.out w1 hb1
                    have Z2 := Lib.hid z2
                    clear z2
                    go_wp2_with fail
                    exact ⟨_, by first | rfl | simp only [q2, Act.put, List.setIfInBounds_toArray, List.set_cons_succ, List.set_cons_zero], Below.refl _ _, rfl⟩
                  refine ⟨fun f w1 hb1 hd => ?_, ?_⟩
                  · clear hd
                    go_wp2_with fail
                    exact ⟨_, by first | rfl | simp only [Act.put, List.setIfInBounds_toArray, List.set_cons_succ, List.set_cons_zero], Below.refl _ _, rfl⟩
                  refine ⟨fun f w1 hb1 hd => ?_, ?_⟩
                  · obtain ⟨d0, d1, -⟩ := hd
                    have q3 : f 3 = .slice (some ⟨b, off, none⟩) ss.length d := d0
                    have q4 : f 4 = .int .i64 (i : Int) := d1
                    clear d0 d1
                    go_wp2_with fail
                    exact ⟨_, by first | rfl | simp only [q3, q4, Act.put, List.setIfInBounds_toArray, List.set_cons_succ, List.set_cons_zero], Below.refl _ _, rfl⟩
                  refine ⟨fun f w1 hb1 hd => ?_, ?_⟩
                  · obtain ⟨d0, -⟩ := hd
                    have q5 : f 5 = .pointer (some ⟨b, off + i * 6, none⟩) := d0
                    clear d0
                    obtain ⟨z0, z1, z2⟩ := HX.out w1 hb1
                    have Z2 := Lib.hid z2
                    clear z2
                    rw [q5]
                    go_wp2_with (refine Go.wpList_load_mid rfl 83 (.tmp 105) rfl b (off + i * 6) rfl [.int .i64 scl, .int .i64 ssq, .int .i64 scode, .int .i64 sk, .float .f64 sx, .string sstr] _ Z2.out Tryd.underlying83 rfl size6s ?_)
                    exact ⟨_, by first | rfl | simp only [q5, Act.put, List.setIfInBounds_toArray, List.set_cons_succ, List.set_cons_zero], Below.refl _ _, rfl⟩
                  refine ⟨fun f w1 hb1 hd => ?_, ?_⟩
                  · obtain ⟨d0, -⟩ := hd
                    have q6 : f 6 = .agg #[.int .i64 scl, .int .i64 ssq, .int .i64 scode, .int .i64 sk, .float .f64 sx, .string sstr] := d0
                    clear d0
                    go_wp2_with fail
                    exact ⟨_, by first | rfl | simp only [q6, Act.put, List.setIfInBounds_toArray, List.set_cons_succ, List.set_cons_zero], alloc_below w1 _, t22_7 w1 ⟨scl, ssq, scode, ⟨sk, sx, sstr⟩⟩⟩
                  exact trivial
                case htailx =>
                  intro f w1 hb1 hd
                  simp only [List.drop_succ_cons, List.drop_zero]
                  have q1 : f 1 = .slice D m e := hd 1 (by decide)
                  obtain ⟨A7, c7, q7, r7⟩ := hd 7 (by decide)
                  clear hd
                  have HIw : Hid (PushI w10.heap.size w14 w1 A2 n2 c2 D m e l) := PushI.below HIu.out (by omega) hb1
                  rw [q1, q7]
                  go_wp2_with (first
                    | (at_builtin
                       refine wpList_appSe rfl (.tmp 101) (.tmp 107) rfl w14.heap.size (.slice D m e) l rfl HIw.out.own w1.heap.size A7 1 c7 [⟨scl, ssq, scode, ⟨sk, sx, sstr⟩⟩] rfl rfl r7 (by have := Hle.out; have := HIw.out.len; have := Hk.out; simp at *; omega) (by have := HIw.out.sz; omega) ?_
                       intro v4 u4 ho4 hg4
                       obtain ⟨D3, d3, rfl, hrow4, hb4, hpush⟩ := HIw.out.push2 (by omega) _ v4 u4 ho4 hg4
                       have Hrow4 := Lib.hid hrow4
                       have Hpush := Lib.hid hpush
                       clear hrow4 hpush ho4 hg4)
                    | (refine wpList_store_sliceV rfl 42 (.tmp 109) (.tmp 108) rfl w10.heap.size 1 D3 (m + 1) d3 rfl rfl 44 _ Hrow4.out (by simp) size1s ?_
                       intro wz q5 ne5 nb5
                       have HIz := Lib.hid (Hpush.out wz q5 ne5 nb5)))
                  have Hlo3 : Hid (∀ s ∈ l ++ [(⟨scl, ssq, scode, ⟨sk, sx, sstr⟩⟩ : Se)], s.Ok) := fun s hs => by
                    rcases List.mem_append.1 hs with h | h
                    · exact Hlo.out s h
                    · rw [List.mem_singleton.1 h]; exact Hsk.out
                  go_roundg (gk - 1)
                  case rel => exact ⟨i + 1, false, D3, m + 1, d3, _, by have := Hig.out; omega, rfl, by go_num, HIz.out, Hlo3.out, by have := Hle.out; simp at *; omega⟩
                  case measure => have := Hig.out; omega
            · go_wp2_with fail
              go_quiet (fail)
              obtain ⟨wq, hwq⟩ : ∃ wn : World, World.drewN wr nq = wn := ⟨_, rfl⟩
              have HIq : Hid (PushI w10.heap.size w14 wq A2 n2 c2 D m e l) := by unfold Hid; rw [← hwq]; exact HI.out.drew nq
              rw [hwq]
              clear hwq
              clear m0 m1 e0 e1 e2 e3 e4 e5 e6 e7 e8 e9 p1 t0 t1 t2 t3 x0
              have hBq : Below W4.heap.size W4 wq := HIq.out.up _ _ (by omega) HB14.out
              obtain ⟨m0, m1, e0, e1, e2, e3, e4, e5, e6, e7, e8, e9⟩ := Hc.out _ hBq
              have p1 := HIq.out.cell
              have hr9 : wq.heap[w9.heap.size]? = some (.cells #[.int .i64 code2, .int .i64 rk, .float .f64 rx, .string rs] 81 (0, 0)) := (HIq.out.kp _ (by omega) (by omega)).trans Q14.out
              have t0 := row_cells4 hr9 0 _ rfl
              have t1 := row_cells4 hr9 1 _ rfl
              have t2 := row_cells4 hr9 2 _ rfl
              have t3 := row_cells4 hr9 3 _ rfl
              have x0 : wq.cell? ⟨b, off + i * 6, none⟩ = some (.int .i64 scl) := by have := (range_below Hr0.out (Hup.out _ hBq) hb) 0 _ rfl; rw [Nat.add_zero] at this; exact this
              clear hr9 hBq
              go_wp2_with (first
                | (at_builtin
                   refine wpList_appSe rfl (.tmp 81) (.tmp 88) rfl w14.heap.size (.slice D m e) l rfl (World.ownsRow.alloc HIq.out.own _) (wq.heap.size + 1) (some ⟨wq.heap.size, 0, none⟩) 1 1 _ rfl rfl (se_one wq ⟨cl, sq, code2, ⟨rk, rx, rs⟩⟩) (by have := Hle.out; have := HIq.out.len; have := Hk.out; simp at *; omega) (by have := HIq.out.sz; simp; omega) ?_
                   intro v4 u4 ho4 hg4
                   obtain ⟨D2, d2, rfl, hrow4, hb4, hpush⟩ := HIq.out.push (by omega) _ _ v4 u4 ho4 hg4
                   have Hrow4 := Lib.hid hrow4
                   have Hpush := Lib.hid hpush
                   clear hrow4 hpush ho4 hg4)
                | (refine wpList_store_sliceV rfl 42 (.tmp 90) (.tmp 89) rfl w10.heap.size 1 D2 (m + 1) d2 rfl rfl 44 _ Hrow4.out (by simp) size1s ?_
                   intro wz q5 ne5 nb5
                   have HIz := Lib.hid (Hpush.out wz q5 ne5 nb5)
                   clear m0 m1 e0 e1 e2 e3 e4 e5 e6 e7 e8 e9 p1 t0 t1 t2 t3 x0
                   have hBq : Below W4.heap.size W4 wz := HIz.out.up _ _ (by omega) HB14.out
                   obtain ⟨m0, m1, e0, e1, e2, e3, e4, e5, e6, e7, e8, e9⟩ := Hc.out _ hBq
                   have p1 := HIz.out.cell
                   have hr9 : wz.heap[w9.heap.size]? = some (.cells #[.int .i64 code2, .int .i64 rk, .float .f64 rx, .string rs] 81 (0, 0)) := (HIz.out.kp _ (by omega) (by omega)).trans Q14.out
                   have t0 := row_cells4 hr9 0 _ rfl
                   have t1 := row_cells4 hr9 1 _ rfl
                   have t2 := row_cells4 hr9 2 _ rfl
                   have t3 := row_cells4 hr9 3 _ rfl
                   have x0 : wz.cell? ⟨b, off + i * 6, none⟩ = some (.int .i64 scl) := by have := (range_below Hr0.out (Hup.out _ hBq) hb) 0 _ rfl; rw [Nat.add_zero] at this; exact this
                   clear hr9 hBq))
              have Hlo2 : Hid (∀ s ∈ l ++ [(⟨cl, sq, code2, ⟨rk, rx, rs⟩⟩ : Se)], s.Ok) := fun s hs => by
                rcases List.mem_append.1 hs with h | h
                · exact Hlo.out s h
                · rw [List.mem_singleton.1 h]; exact ⟨Hv2.out.num, Hv2.out.txt⟩
              rcases Decidable.em (scl = cl) with hq | hq
              · have b2 : (scl == cl) = true := by simpa using hq
                clear hq
                go_quiet (fail)
                go_wp2_with fail
                go_roundg (gk - 1)
                case rel => exact ⟨i + 1, true, D2, m + 1, d2, _, by have := Hig.out; omega, rfl, by go_num, HIz.out.drew _, Hlo2.out, by have := Hle.out; simp at *; omega⟩
                case measure => have := Hig.out; omega
              · have b2 : (scl == cl) = false := by simpa using hq
                clear hq
                go_quiet (fail)
                obtain ⟨wu, hwq⟩ : ∃ wn : World, World.drewN wz nq = wn := ⟨_, rfl⟩
                have HIu : Hid (PushI w10.heap.size w14 wu A2 n2 c2 D2 (m + 1) d2 (l ++ [(⟨cl, sq, code2, ⟨rk, rx, rs⟩⟩ : Se)])) := by unfold Hid; rw [← hwq]; exact HIz.out.drew nq
                rw [hwq]
                clear hwq
                clear m0 m1 e0 e1 e2 e3 e4 e5 e6 e7 e8 e9 p1 t0 t1 t2 t3 x0
                have hBq : Below W4.heap.size W4 wu := HIu.out.up _ _ (by omega) HB14.out
                obtain ⟨m0, m1, e0, e1, e2, e3, e4, e5, e6, e7, e8, e9⟩ := Hc.out _ hBq
                have p1 := HIu.out.cell
                have hr9 : wu.heap[w9.heap.size]? = some (.cells #[.int .i64 code2, .int .i64 rk, .float .f64 rx, .string rs] 81 (0, 0)) := (HIu.out.kp _ (by omega) (by omega)).trans Q14.out
                have t0 := row_cells4 hr9 0 _ rfl
                have t1 := row_cells4 hr9 1 _ rfl
                have t2 := row_cells4 hr9 2 _ rfl
                have t3 := row_cells4 hr9 3 _ rfl
                have x0 : wu.cell? ⟨b, off + i * 6, none⟩ = some (.int .i64 scl) := by have := (range_below Hr0.out (Hup.out _ hBq) hb) 0 _ rfl; rw [Nat.add_zero] at this; exact this
                clear hr9 hBq
                go_wp2_with fail
                have HX : Hid (∀ w', Below wu.heap.size wu w' → w'.cell? ⟨w10.heap.size, 1, none⟩ = some (.slice D2 (m + 1) d2) ∧ w'.cell? ⟨w.heap.size, 1, none⟩ = some (.slice (some ⟨b, off, none⟩) ss.length d) ∧ w'.rangeAt b (off + i * 6) [.int .i64 scl, .int .i64 ssq, .int .i64 scode, .int .i64 sk, .float .f64 sx, .string sstr]) := fun w' hb' => by
                  have hBu := bstep (HIu.out.up _ _ (by omega) HB14.out) hb'
                  exact ⟨(PushI.below HIu.out (by omega) hb').cell, (Hc.out _ hBu).2.1, range_below Hr0.out (Hup.out _ hBu) hb⟩
                with_reducible refine wp_region_tailT 8 (by decide) (by kernel_rfl) (by kernel_rfl) (by kernel_rfl) (by kernel_rfl) (T22 w10.heap.size w.heap.size D2 (m + 1) d2 b off ss.length d i ⟨scl, ssq, scode, ⟨sk, sx, sstr⟩⟩) t22_below ?mky (fun f => ?hmky) ?f0y ?h0y ?hputy ?hstepy ?htaily
                case hmky =>
                  simp only [List.take_succ_cons, List.take_zero, putOps, Act.put, List.setIfInBounds_toArray, List.set_cons_succ, List.set_cons_zero, Nat.zero_add, Nat.reduceAdd]
                  rfl
                case f0y => exact fun k => ([u100, u101, u102, u103, u104, u105, u106, u107] : List Value).getD k undef
                case h0y => exact rfl
                case hputy =>
                  simp only [List.take_succ_cons, List.take_zero]
                  repeat (refine ⟨fun f v => rfl, ?_⟩)
                  exact trivial
                case hstepy =>
                  simp only [List.take_succ_cons, List.take_zero]
                  refine ⟨fun f w1 hb1 hd => ?_, ?_⟩
                  · clear hd
                    go_wp2_with fail
                    exact ⟨_, by first | rfl | simp only [Act.put, List.setIfInBounds_toArray, List.set_cons_succ, List.set_cons_zero], Below.refl _ _, rfl⟩
                  refine ⟨fun f w1 hb1 hd => ?_, ?_⟩
                  · obtain ⟨d0, -⟩ := hd
                    have q0 : f 0 = .pointer (some ⟨w10.heap.size, 1, none⟩) := d0
                    clear d0
                    obtain ⟨z0, z1, z2⟩ := HX.out w1 hb1
                    have Z2 := Lib.hid z2
                    clear z2
                    go_wp2_with fail
                    exact ⟨_, by first | rfl | simp only [q0, Act.put, List.setIfInBounds_toArray, List.set_cons_succ, List.set_cons_zero], Below.refl _ _, rfl⟩
                  refine ⟨fun f w1 hb1 hd => ?_, ?_⟩
                  · clear hd
                    go_wp2_with fail
                    exact ⟨_, by first | rfl | simp only [Act.put, List.setIfInBounds_toArray, List.set_cons_succ, List.set_cons_zero], Below.refl _ _, rfl⟩
                  refine ⟨fun f w1 hb1 hd => ?_, ?_⟩
                  · obtain ⟨d0, -⟩ := hd
                    have q2 : f 2 = .pointer (some ⟨w.heap.size, 1, none⟩) := d0
                    clear d0
                    obtain ⟨z0, z1, z2⟩ := HX.out w1 hb1
                    have Z2 := Lib.hid z2
                    clear z2
                    go_wp2_with fail
                    exact ⟨_, by first | rfl | simp only [q2, Act.put, List.setIfInBounds_toArray, List.set_cons_succ, List.set_cons_zero], Below.refl _ _, rfl⟩
                  refine ⟨fun f w1 hb1 hd => ?_, ?_⟩
                  · clear hd
                    go_wp2_with fail
                    exact ⟨_, by first | rfl | simp only [Act.put, List.setIfInBounds_toArray, List.set_cons_succ, List.set_cons_zero], Below.refl _ _, rfl⟩
                  refine ⟨fun f w1 hb1 hd => ?_, ?_⟩
                  · obtain ⟨d0, d1, -⟩ := hd
                    have q3 : f 3 = .slice (some ⟨b, off, none⟩) ss.length d := d0
                    have q4 : f 4 = .int .i64 (i : Int) := d1
                    clear d0 d1
                    go_wp2_with fail
                    exact ⟨_, by first | rfl | simp only [q3, q4, Act.put, List.setIfInBounds_toArray, List.set_cons_succ, List.set_cons_zero], Below.refl _ _, rfl⟩
                  refine ⟨fun f w1 hb1 hd => ?_, ?_⟩
                  · obtain ⟨d0, -⟩ := hd
                    have q5 : f 5 = .pointer (some ⟨b, off + i * 6, none⟩) := d0
                    clear d0
                    obtain ⟨z0, z1, z2⟩ := HX.out w1 hb1
                    have Z2 := Lib.hid z2
                    clear z2
                    rw [q5]
                    go_wp2_with (refine Go.wpList_load_mid rfl 83 (.tmp 105) rfl b (off + i * 6) rfl [.int .i64 scl, .int .i64 ssq, .int .i64 scode, .int .i64 sk, .float .f64 sx, .string sstr] _ Z2.out Tryd.underlying83 rfl size6s ?_)
                    exact ⟨_, by first | rfl | simp only [q5, Act.put, List.setIfInBounds_toArray, List.set_cons_succ, List.set_cons_zero], Below.refl _ _, rfl⟩
                  refine ⟨fun f w1 hb1 hd => ?_, ?_⟩
                  · obtain ⟨d0, -⟩ := hd
                    have q6 : f 6 = .agg #[.int .i64 scl, .int .i64 ssq, .int .i64 scode, .int .i64 sk, .float .f64 sx, .string sstr] := d0
                    clear d0
                    go_wp2_with fail
                    exact ⟨_, by first | rfl | simp only [q6, Act.put, List.setIfInBounds_toArray, List.set_cons_succ, List.set_cons_zero], alloc_below w1 _, t22_7 w1 ⟨scl, ssq, scode, ⟨sk, sx, sstr⟩⟩⟩
                  exact trivial
                case htaily =>
                  intro f w1 hb1 hd
                  simp only [List.drop_succ_cons, List.drop_zero]
                  have q1 : f 1 = .slice D2 (m + 1) d2 := hd 1 (by decide)
                  obtain ⟨A7, c7, q7, r7⟩ := hd 7 (by decide)
                  clear hd
                  have HIw : Hid (PushI w10.heap.size w14 w1 A2 n2 c2 D2 (m + 1) d2 (l ++ [(⟨cl, sq, code2, ⟨rk, rx, rs⟩⟩ : Se)])) := PushI.below HIu.out (by omega) hb1
                  rw [q1, q7]
                  go_wp2_with (first
                    | (at_builtin
                       refine wpList_appSe rfl (.tmp 101) (.tmp 107) rfl w14.heap.size (.slice D2 (m + 1) d2) (l ++ [(⟨cl, sq, code2, ⟨rk, rx, rs⟩⟩ : Se)]) rfl HIw.out.own w1.heap.size A7 1 c7 [⟨scl, ssq, scode, ⟨sk, sx, sstr⟩⟩] rfl rfl r7 (by have := Hle.out; have := HIw.out.len; have := Hk.out; simp at *; omega) (by have := HIw.out.sz; omega) ?_
                       intro v4 u4 ho4 hg4
                       obtain ⟨D3, d3, rfl, hrow4, hb4, hpush⟩ := HIw.out.push2 (by omega) _ v4 u4 ho4 hg4
                       have Hrow4 := Lib.hid hrow4
                       have Hpush := Lib.hid hpush
                       clear hrow4 hpush ho4 hg4)
                    | (refine wpList_store_sliceV rfl 42 (.tmp 109) (.tmp 108) rfl w10.heap.size 1 D3 ((m + 1) + 1) d3 rfl rfl 44 _ Hrow4.out (by simp) size1s ?_
                       intro wz q5 ne5 nb5
                       have HIz := Lib.hid (Hpush.out wz q5 ne5 nb5)))
                  have Hlo3 : Hid (∀ s ∈ (l ++ [(⟨cl, sq, code2, ⟨rk, rx, rs⟩⟩ : Se)]) ++ [(⟨scl, ssq, scode, ⟨sk, sx, sstr⟩⟩ : Se)], s.Ok) := fun s hs => by
                    rcases List.mem_append.1 hs with h | h
                    · exact Hlo2.out s h
                    · rw [List.mem_singleton.1 h]; exact Hsk.out
                  go_roundg (gk - 1)
                  case rel => exact ⟨i + 1, true, D3, (m + 1) + 1, d3, _, by have := Hig.out; omega, rfl, by go_num, HIz.out, Hlo3.out, by have := Hle.out; simp at *; omega⟩
                  case measure => have := Hig.out; omega
          · go_wp2_with fail
            go_quiet (fail)
            obtain ⟨wq, hwq⟩ : ∃ wn : World, World.drewN wr nq = wn := ⟨_, rfl⟩
            have HIq : Hid (PushI w10.heap.size w14 wq A2 n2 c2 D m e l) := by unfold Hid; rw [← hwq]; exact HI.out.drew nq
            rw [hwq]
            clear hwq
            clear m0 m1 e0 e1 e2 e3 e4 e5 e6 e7 e8 e9 p1 t0 t1 t2 t3 x0
            have hBq : Below W4.heap.size W4 wq := HIq.out.up _ _ (by omega) HB14.out
            obtain ⟨m0, m1, e0, e1, e2, e3, e4, e5, e6, e7, e8, e9⟩ := Hc.out _ hBq
            have p1 := HIq.out.cell
            have hr9 : wq.heap[w9.heap.size]? = some (.cells #[.int .i64 code2, .int .i64 rk, .float .f64 rx, .string rs] 81 (0, 0)) := (HIq.out.kp _ (by omega) (by omega)).trans Q14.out
            have t0 := row_cells4 hr9 0 _ rfl
            have t1 := row_cells4 hr9 1 _ rfl
            have t2 := row_cells4 hr9 2 _ rfl
            have t3 := row_cells4 hr9 3 _ rfl
            have x0 : wq.cell? ⟨b, off + i * 6, none⟩ = some (.int .i64 scl) := by have := (range_below Hr0.out (Hup.out _ hBq) hb) 0 _ rfl; rw [Nat.add_zero] at this; exact this
            clear hr9 hBq
            go_wp2_with fail
            rcases Decidable.em (scl = cl) with hq | hq
            · have b2 : (scl == cl) = true := by simpa using hq
              clear hq
              go_quiet (fail)
              go_wp2_with fail
              go_roundg (gk - 1)
              case rel => exact ⟨i + 1, true, D, m, e, l, by have := Hig.out; omega, rfl, by go_num, HIq.out.drew _, Hlo.out, by have := Hle.out; simp at *; omega⟩
              case measure => have := Hig.out; omega
            · have b2 : (scl == cl) = false := by simpa using hq
              clear hq
              go_quiet (fail)
              obtain ⟨wu, hwq⟩ : ∃ wn : World, World.drewN wq nq = wn := ⟨_, rfl⟩
              have HIu : Hid (PushI w10.heap.size w14 wu A2 n2 c2 D m e l) := by unfold Hid; rw [← hwq]; exact HIq.out.drew nq
              rw [hwq]
              clear hwq
              clear m0 m1 e0 e1 e2 e3 e4 e5 e6 e7 e8 e9 p1 t0 t1 t2 t3 x0
              have hBq : Below W4.heap.size W4 wu := HIu.out.up _ _ (by omega) HB14.out
              obtain ⟨m0, m1, e0, e1, e2, e3, e4, e5, e6, e7, e8, e9⟩ := Hc.out _ hBq
              have p1 := HIu.out.cell
              have hr9 : wu.heap[w9.heap.size]? = some (.cells #[.int .i64 code2, .int .i64 rk, .float .f64 rx, .string rs] 81 (0, 0)) := (HIu.out.kp _ (by omega) (by omega)).trans Q14.out
              have t0 := row_cells4 hr9 0 _ rfl
              have t1 := row_cells4 hr9 1 _ rfl
              have t2 := row_cells4 hr9 2 _ rfl
              have t3 := row_cells4 hr9 3 _ rfl
              have x0 : wu.cell? ⟨b, off + i * 6, none⟩ = some (.int .i64 scl) := by have := (range_below Hr0.out (Hup.out _ hBq) hb) 0 _ rfl; rw [Nat.add_zero] at this; exact this
              clear hr9 hBq
              go_wp2_with fail
              have HX : Hid (∀ w', Below wu.heap.size wu w' → w'.cell? ⟨w10.heap.size, 1, none⟩ = some (.slice D m e) ∧ w'.cell? ⟨w.heap.size, 1, none⟩ = some (.slice (some ⟨b, off, none⟩) ss.length d) ∧ w'.rangeAt b (off + i * 6) [.int .i64 scl, .int .i64 ssq, .int .i64 scode, .int .i64 sk, .float .f64 sx, .string sstr]) := fun w' hb' => by
                have hBu := bstep (HIu.out.up _ _ (by omega) HB14.out) hb'
                exact ⟨(PushI.below HIu.out (by omega) hb').cell, (Hc.out _ hBu).2.1, range_below Hr0.out (Hup.out _ hBu) hb⟩
              with_reducible refine wp_region_tailT 8 (by decide) (by kernel_rfl) (by kernel_rfl) (by kernel_rfl) (by kernel_rfl) (T22 w10.heap.size w.heap.size D m e b off ss.length d i ⟨scl, ssq, scode, ⟨sk, sx, sstr⟩⟩) t22_below ?mkz (fun f => ?hmkz) ?f0z ?h0z ?hputz ?hstepz ?htailz
              case hmkz =>
                simp only [List.take_succ_cons, List.take_zero, putOps, Act.put, List.setIfInBounds_toArray, List.set_cons_succ, List.set_cons_zero, Nat.zero_add, Nat.reduceAdd]
                rfl
              case f0z => exact fun k => ([u100, u101, u102, u103, u104, u105, u106, u107] : List Value).getD k undef
              case h0z => exact rfl
              case hputz =>
                simp only [List.take_succ_cons, List.take_zero]
                repeat (refine ⟨fun f v => rfl, ?_⟩)
                exact trivial
              case hstepz =>
                simp only [List.take_succ_cons, List.take_zero]
                refine ⟨fun f w1 hb1 hd => ?_, ?_⟩
                · clear hd
                  go_wp2_with fail
                  exact ⟨_, by first | rfl | simp only [Act.put, List.setIfInBounds_toArray, List.set_cons_succ, List.set_cons_zero], Below.refl _ _, rfl⟩
                refine ⟨fun f w1 hb1 hd => ?_, ?_⟩
                · obtain ⟨d0, -⟩ := hd
                  have q0 : f 0 = .pointer (some ⟨w10.heap.size, 1, none⟩) := d0
                  clear d0
                  obtain ⟨z0, z1, z2⟩ := HX.out w1 hb1
                  have Z2 := Lib.hid z2
                  clear z2
                  go_wp2_with fail
                  exact ⟨_, by first | rfl | simp only [q0, Act.put, List.setIfInBounds_toArray, List.set_cons_succ, List.set_cons_zero], Below.refl _ _, rfl⟩
                refine ⟨fun f w1 hb1 hd => ?_, ?_⟩
                · clear hd
                  go_wp2_with fail
                  exact ⟨_, by first | rfl | simp only [Act.put, List.setIfInBounds_toArray, List.set_cons_succ, List.set_cons_zero], Below.refl _ _, rfl⟩
                refine ⟨fun f w1 hb1 hd => ?_, ?_⟩
                · obtain ⟨d0, -⟩ := hd
                  have q2 : f 2 = .pointer (some ⟨w.heap.size, 1, none⟩) := d0
                  clear d0
                  obtain ⟨z0, z1, z2⟩ := HX.out w1 hb1
                  have Z2 := Lib.hid z2
                  clear z2
                  go_wp2_with fail
                  exact ⟨_, by first | rfl | simp only [q2, Act.put, List.setIfInBounds_toArray, List.set_cons_succ, List.set_cons_zero], Below.refl _ _, rfl⟩
                refine ⟨fun f w1 hb1 hd => ?_, ?_⟩
                · clear hd
                  go_wp2_with fail
                  exact ⟨_, by first | rfl | simp only [Act.put, List.setIfInBounds_toArray, List.set_cons_succ, List.set_cons_zero], Below.refl _ _, rfl⟩
                refine ⟨fun f w1 hb1 hd => ?_, ?_⟩
                · obtain ⟨d0, d1, -⟩ := hd
                  have q3 : f 3 = .slice (some ⟨b, off, none⟩) ss.length d := d0
                  have q4 : f 4 = .int .i64 (i : Int) := d1
                  clear d0 d1
                  go_wp2_with fail
                  exact ⟨_, by first | rfl | simp only [q3, q4, Act.put, List.setIfInBounds_toArray, List.set_cons_succ, List.set_cons_zero], Below.refl _ _, rfl⟩
                refine ⟨fun f w1 hb1 hd => ?_, ?_⟩
                · obtain ⟨d0, -⟩ := hd
                  have q5 : f 5 = .pointer (some ⟨b, off + i * 6, none⟩) := d0
                  clear d0
                  obtain ⟨z0, z1, z2⟩ := HX.out w1 hb1
                  have Z2 := Lib.hid z2
                  clear z2
                  rw [q5]
                  go_wp2_with (refine Go.wpList_load_mid rfl 83 (.tmp 105) rfl b (off + i * 6) rfl [.int .i64 scl, .int .i64 ssq, .int .i64 scode, .int .i64 sk, .float .f64 sx, .string sstr] _ Z2.out Tryd.underlying83 rfl size6s ?_)
                  exact ⟨_, by first | rfl | simp only [q5, Act.put, List.setIfInBounds_toArray, List.set_cons_succ, List.set_cons_zero], Below.refl _ _, rfl⟩
                refine ⟨fun f w1 hb1 hd => ?_, ?_⟩
                · obtain ⟨d0, -⟩ := hd
                  have q6 : f 6 = .agg #[.int .i64 scl, .int .i64 ssq, .int .i64 scode, .int .i64 sk, .float .f64 sx, .string sstr] := d0
                  clear d0
                  go_wp2_with fail
                  exact ⟨_, by first | rfl | simp only [q6, Act.put, List.setIfInBounds_toArray, List.set_cons_succ, List.set_cons_zero], alloc_below w1 _, t22_7 w1 ⟨scl, ssq, scode, ⟨sk, sx, sstr⟩⟩⟩
                exact trivial
              case htailz =>
                intro f w1 hb1 hd
                simp only [List.drop_succ_cons, List.drop_zero]
                have q1 : f 1 = .slice D m e := hd 1 (by decide)
                obtain ⟨A7, c7, q7, r7⟩ := hd 7 (by decide)
                clear hd
                have HIw : Hid (PushI w10.heap.size w14 w1 A2 n2 c2 D m e l) := PushI.below HIu.out (by omega) hb1
                rw [q1, q7]
                go_wp2_with (first
                  | (at_builtin
                     refine wpList_appSe rfl (.tmp 101) (.tmp 107) rfl w14.heap.size (.slice D m e) l rfl HIw.out.own w1.heap.size A7 1 c7 [⟨scl, ssq, scode, ⟨sk, sx, sstr⟩⟩] rfl rfl r7 (by have := Hle.out; have := HIw.out.len; have := Hk.out; simp at *; omega) (by have := HIw.out.sz; omega) ?_
                     intro v4 u4 ho4 hg4
                     obtain ⟨D3, d3, rfl, hrow4, hb4, hpush⟩ := HIw.out.push2 (by omega) _ v4 u4 ho4 hg4
                     have Hrow4 := Lib.hid hrow4
                     have Hpush := Lib.hid hpush
                     clear hrow4 hpush ho4 hg4)
                  | (refine wpList_store_sliceV rfl 42 (.tmp 109) (.tmp 108) rfl w10.heap.size 1 D3 (m + 1) d3 rfl rfl 44 _ Hrow4.out (by simp) size1s ?_
                     intro wz q5 ne5 nb5
                     have HIz := Lib.hid (Hpush.out wz q5 ne5 nb5)))
                have Hlo3 : Hid (∀ s ∈ l ++ [(⟨scl, ssq, scode, ⟨sk, sx, sstr⟩⟩ : Se)], s.Ok) := fun s hs => by
                  rcases List.mem_append.1 hs with h | h
                  · exact Hlo.out s h
                  · rw [List.mem_singleton.1 h]; exact Hsk.out
                go_roundg (gk - 1)
                case rel => exact ⟨i + 1, true, D3, m + 1, d3, _, by have := Hig.out; omega, rfl, by go_num, HIz.out, Hlo3.out, by have := Hle.out; simp at *; omega⟩
                case measure => have := Hig.out; omega
        · obtain rfl : i = ss.length := by omega
          clear HE hlt
          cases dn
          · go_wp2_with (first
              | (at_builtin
                 refine wpList_appSe rfl (.tmp 113) (.tmp 120) rfl w14.heap.size (.slice D m e) l rfl (World.ownsRow.alloc HI.out.own _) (wr.heap.size + 1) (some ⟨wr.heap.size, 0, none⟩) 1 1 _ rfl rfl (se_one wr ⟨cl, sq, code2, ⟨rk, rx, rs⟩⟩) (by have := Hle.out; have := HI.out.len; have := Hk.out; simp at *; omega) (by have := HI.out.sz; simp; omega) ?_
                 intro v4 u4 ho4 hg4
                 obtain ⟨D2, d2, rfl, hrow4, hb4, hpush⟩ := HI.out.push (by omega) _ _ v4 u4 ho4 hg4
                 have Hrow4 := Lib.hid hrow4
                 have Hpush := Lib.hid hpush
                 clear hrow4 hpush ho4 hg4)
              | (refine wpList_store_sliceV rfl 42 (.tmp 122) (.tmp 121) rfl w10.heap.size 1 D2 (m + 1) d2 rfl rfl 44 _ Hrow4.out (by simp) size1s ?_
                 intro wz q5 ne5 nb5
                 have HIz := Lib.hid (Hpush.out wz q5 ne5 nb5)))
            have Hlo2 : Hid (∀ s ∈ l ++ [(⟨cl, sq, code2, ⟨rk, rx, rs⟩⟩ : Se)], s.Ok) := fun s hs => by
              rcases List.mem_append.1 hs with h | h
              · exact Hlo.out s h
              · rw [List.mem_singleton.1 h]; exact ⟨Hv2.out.num, Hv2.out.txt⟩
            have hBz : Below W4.heap.size W4 wz := HIz.out.up _ _ (by omega) HB14.out
            have Hr4 := Lib.hid (HR4.out _ hBz)
            have Hr5 := Lib.hid (HR5.out _ hBz)
            have hbu := Hup.out _ hBz
            have Hr9 : Hid (wz.heap[w9.heap.size]? = some (.cells #[.int .i64 code2, .int .i64 rk, .float .f64 rx, .string rs] 81 (0, 0))) := (HIz.out.kp _ (by omega) (by omega)).trans Q14.out
            have Hrw := Lib.hid HIz.out.row
            with_reducible refine wp_region_ret2 (by kernel_rfl) (by kernel_rfl) ?mkq (fun f => ?hmkq) ?f0q ?h0q ?hputq (by kernel_rfl) (by kernel_rfl) (by rfl) (by rfl) (by rfl) (by rfl) 44 81 (.tmp 10) (.tmp 9) (.tmp 4) (.tmp 5) (.tmp 123) (.tmp 124) (by rfl) (by rfl) (by rfl) (by rfl) w10.heap.size w9.heap.size (w.heap.size + 2) (w.heap.size + 3) (fun f => ?paq) (fun f => ?pbq) (fun f => ?pcq) (fun f => ?pdq) (fun f => ?peq) (fun f => ?pfq) #[.slice A2 n2 c2, .slice D2 (m + 1) d2] #[.int .i64 code2, .int .i64 rk, .float .f64 rx, .string rs] #[.slice none 0 0, .slice none 0 0] #[.int .i64 0, .int .i64 0, .float .f64 0, .string ⟨#[]⟩] _ _ Hrw.out Hr9.out Hr4.out Hr5.out ?z1 ?z2 Tryd.underlying44 ?z3 Tryd.underlying81 ?z4 ?z5 ?z6 (mach_one _ _ _ _ _ _) (reply_one _ _ _ _) (by omega) (by omega) (by omega) (by omega) (by omega) ?hzq
            case hmkq =>
              simp only [putOps, Act.put, List.setIfInBounds_toArray, List.set_cons_succ, List.set_cons_zero, Nat.zero_add]
              rfl
            case f0q => exact fun k => ([undef, undef] : List Value).getD k undef
            case h0q => exact rfl
            case hputq =>
              repeat (refine ⟨fun f v => rfl, ?_⟩)
              exact trivial
            case z1 => first | rfl | exact size2m | exact size4r
            case z2 => first | rfl | exact size2m | exact size4r
            case z3 => first | rfl | exact size2m | exact size4r
            case z4 => first | rfl | exact size2m | exact size4r
            case z5 => first | rfl | exact size2m | exact size4r
            case z6 => first | rfl | exact size2m | exact size4r
            case paq => exact rfl
            case pbq => exact rfl
            case pcq => exact rfl
            case pdq => exact rfl
            case peq => exact rfl
            case pfq => exact rfl
            case hzq =>
              intro wf nz4 nz5 nez nbz
              go_wp2_with fail
              refine bodyPost_ret (results_mr Tryd.results53 _ _ (w.heap.size + 2) (w.heap.size + 3) _ _ _ _ _ _ rfl rfl nz4 nz5) rfl ?_
              have hop : OwnP wf w11.heap.size (.slice A2 n2 c2) ps2 := own_keep (own_keep Ho14.out fun g h1 h2 => HIz.out.kp g h2 (by omega)) fun g h1 h2 => nez g (by omega) (by omega)
              have hos : OwnSe wf w14.heap.size (.slice D2 (m + 1) d2) (l ++ [⟨cl, sq, code2, ⟨rk, rx, rs⟩⟩]) := own_keep HIz.out.own fun g h1 h2 => nez g (by omega) (by omega)
              exact HFin.out wf A2 n2 c2 D2 ((m + 1)) d2 _ _ code2 ⟨rk, rx, rs⟩ (nbz _ _ (by omega) (by omega) hbu) (own_base hop (by omega)) (own_base hos (by omega)) Hn2.out HIz.out.len HR2.out Hlo2.out (by have := Hle.out; simp at this; omega) Hv2.out
          · go_wp2_with fail
            have hBz : Below W4.heap.size W4 wr := HI.out.up _ _ (by omega) HB14.out
            have Hr4 := Lib.hid (HR4.out _ hBz)
            have Hr5 := Lib.hid (HR5.out _ hBz)
            have hbu := Hup.out _ hBz
            have Hr9 : Hid (wr.heap[w9.heap.size]? = some (.cells #[.int .i64 code2, .int .i64 rk, .float .f64 rx, .string rs] 81 (0, 0))) := (HI.out.kp _ (by omega) (by omega)).trans Q14.out
            have Hrw := Lib.hid HI.out.row
            with_reducible refine wp_region_ret2 (by kernel_rfl) (by kernel_rfl) ?mkr (fun f => ?hmkr) ?f0r ?h0r ?hputr (by kernel_rfl) (by kernel_rfl) (by rfl) (by rfl) (by rfl) (by rfl) 44 81 (.tmp 10) (.tmp 9) (.tmp 4) (.tmp 5) (.tmp 123) (.tmp 124) (by rfl) (by rfl) (by rfl) (by rfl) w10.heap.size w9.heap.size (w.heap.size + 2) (w.heap.size + 3) (fun f => ?par) (fun f => ?pbr) (fun f => ?pcr) (fun f => ?pdr) (fun f => ?per) (fun f => ?pfr) #[.slice A2 n2 c2, .slice D m e] #[.int .i64 code2, .int .i64 rk, .float .f64 rx, .string rs] #[.slice none 0 0, .slice none 0 0] #[.int .i64 0, .int .i64 0, .float .f64 0, .string ⟨#[]⟩] _ _ Hrw.out Hr9.out Hr4.out Hr5.out ?z1 ?z2 Tryd.underlying44 ?z3 Tryd.underlying81 ?z4 ?z5 ?z6 (mach_one _ _ _ _ _ _) (reply_one _ _ _ _) (by omega) (by omega) (by omega) (by omega) (by omega) ?hzr
            case hmkr =>
              simp only [putOps, Act.put, List.setIfInBounds_toArray, List.set_cons_succ, List.set_cons_zero, Nat.zero_add]
              rfl
            case f0r => exact fun k => ([undef, undef] : List Value).getD k undef
            case h0r => exact rfl
            case hputr =>
              repeat (refine ⟨fun f v => rfl, ?_⟩)
              exact trivial
            case z1 => first | rfl | exact size2m | exact size4r
            case z2 => first | rfl | exact size2m | exact size4r
            case z3 => first | rfl | exact size2m | exact size4r
            case z4 => first | rfl | exact size2m | exact size4r
            case z5 => first | rfl | exact size2m | exact size4r
            case z6 => first | rfl | exact size2m | exact size4r
            case par => exact rfl
            case pbr => exact rfl
            case pcr => exact rfl
            case pdr => exact rfl
            case per => exact rfl
            case pfr => exact rfl
            case hzr =>
              intro wf nz4 nz5 nez nbz
              go_wp2_with fail
              refine bodyPost_ret (results_mr Tryd.results53 _ _ (w.heap.size + 2) (w.heap.size + 3) _ _ _ _ _ _ rfl rfl nz4 nz5) rfl ?_
              have hop : OwnP wf w11.heap.size (.slice A2 n2 c2) ps2 := own_keep (own_keep Ho14.out fun g h1 h2 => HI.out.kp g h2 (by omega)) fun g h1 h2 => nez g (by omega) (by omega)
              have hos : OwnSe wf w14.heap.size (.slice D m e) l := own_keep HI.out.own fun g h1 h2 => nez g (by omega) (by omega)
              exact HFin.out wf A2 n2 c2 D (m) e _ _ code2 ⟨rk, rx, rs⟩ (nbz _ _ (by omega) (by omega) hbu) (own_base hop (by omega)) (own_base hos (by omega)) Hn2.out HI.out.len HR2.out Hlo.out (by have := Hle.out; simp at this; omega) Hv2.out
end Go.Proofs.YtkckncggiicciaaDoor
/-
  A region that draws its order, with one operation (the k-th) that writes: what is known of the world hangs on whether it has been; those that it waits for see it not.
-/
namespace Go.Proofs.YtkckncggiicciaaDoor
open Go Go.RowKit
def lastWaits (l : List Oper) (k i : Nat) : Bool := match l[k]? with
  | some o => waits o i
  | none => false
theorem done_set {L : Array Bool} {i j : Nat} (h : L.getD j false = true) : (L.setIfInBounds i true).getD j false = true := by
  by_cases hji : j = i
  · subst hji
    have hj : j < L.size := by
      rcases Nat.lt_or_ge j L.size with h1 | h1
      · exact h1
      · rw [Array.getD_eq_getD_getElem?, Array.getElem?_eq_none h1] at h; cases h
    rw [Array.getD_eq_getD_getElem?, Array.getElem?_setIfInBounds_self_of_lt hj]
    rfl
  · rw [Array.getD_eq_getD_getElem?, Array.getElem?_setIfInBounds_ne (Ne.symm hji), ← Array.getD_eq_getD_getElem?]
    exact h
theorem wp_region_last {P : Program} {id : Nat} {Q : Exit → Act → World → Prop} {a0 : Act} {w0 : World} {l : List Oper} (k : Nat) (hk : k < l.length) (hm : P.follows .mixedOrders = true) (hlex : lexAll 0 l = true)
    (J : Bool → World → Prop) (R : World → World → Prop) (T : Nat → Value → World → Prop) (hT : ∀ i v w w', T i v w → R w w' → T i v w')
    (mk : (Nat → Value) → Act) (_hmk : ∀ f, putOps a0 l f 0 = mk f) (f0 : Nat → Value) (h0 : mk f0 = a0)
    (hput : stepAll (fun i o => ∀ f v, (mk f).put o.dst v = mk (fun j => if j = i then v else f j)) 0 l)
    (hJ : J false { w0 with drawn := w0.drawn + 1 })
    (hstep : stepAll (fun i o => ∀ f w b, J b w → ((i = k ∨ lastWaits l k i = true) → b = false) → depAll (fun j => T j (f j) w) o.after.toList →
      wpList P l.toArray (oneQ (fun a' w' => ∃ v, a' = (mk f).put o.dst v ∧ R w w' ∧ J (b || decide (i = k)) w' ∧ T i v w') Q) [o] (mk f) w) 0 l)
    (hend : ∀ f w, J true w → (∀ i, i < l.length → T i (f i) w) → Q .normal (mk f) w) :
    (Code.region id l.toArray true).wp P Q a0 w0 := by
  refine wp_region_any hm ?_
  refine wpAny_inv (fun L a w => L.size = l.length ∧ (L.getD k false = true → ∀ j, lastWaits l k j = true → L.getD j false = true) ∧ ∃ f, a = mk f ∧ J (L.getD k false) w ∧ ∀ i, i < l.length → L.getD i false = true → T i (f i) w) ?_ ?_ l.toArray.size _ _ _ ?_ ?_
  · rintro L a w hr ⟨hsz, _, f, rfl, hj, ht⟩
    have hall : ∀ n i, i < n → i < l.length → L.getD i false = true := by
      intro n
      induction n with
      | zero => intro i h; omega
      | succ n ih =>
        intro i hi hl
        cases hc : L.getD i false with
        | true => rfl
        | false =>
          have : i ∈ Region.ready .any l.toArray L := by
            refine mem_ready.2 ⟨?_, l[i], ?_, fun e he hbb => ih e.on ?_ ?_⟩
            · rw [Array.getD_eq_getD_getElem?, Array.getElem?_eq_getElem (by omega)] at hc ⊢
              exact hc
            · rw [List.getElem?_toArray, List.getElem?_eq_getElem hl]
            · have := lexAll_at hlex (List.getElem?_eq_getElem hl) e he hbb; omega
            · have := lexAll_at hlex (List.getElem?_eq_getElem hl) e he hbb; omega
          rw [hr] at this
          cases this
    rw [hall (k + 1) k (by omega) hk] at hj
    exact hend f w hj fun i hi => ht i hi (hall (i + 1) i (by omega) hi)
  · rintro L a w i hi ⟨hsz, hcl, f, rfl, hj, ht⟩
    obtain ⟨hnl, o, ho, hd⟩ := mem_ready.1 hi
    have ho' : l[i]? = some o := by rw [List.getElem?_toArray] at ho; exact ho
    have hil : i < l.length := (List.getElem?_eq_some_iff.1 ho').1
    have hnl' : L.getD i false = false := by
      rw [Array.getD_eq_getD_getElem?, Array.getElem?_eq_getElem (by omega)] at hnl ⊢
      exact hnl
    have hput' := stepAll_at hput ho'
    rw [Nat.zero_add] at hput'
    have hst := stepAll_at hstep ho'
    rw [Nat.zero_add] at hst
    have hbk : (i = k ∨ lastWaits l k i = true) → L.getD k false = false := by
      rintro (rfl | hw)
      · exact hnl'
      · cases hc : L.getD k false with
        | false => rfl
        | true => rw [hcl hc i hw] at hnl'; cases hnl'
    have hst' := hst f w (L.getD k false) hj hbk (depAll_of fun e he hbd => by
      have he' : e ∈ o.after := by simpa using he
      have := lexAll_at hlex ho' e he' hbd
      exact ht e.on (by omega) (hd e he' hbd))
    refine wpOp_mono ?_ (wpOp_one ho hst')
    rintro a' w' ⟨v, rfl, hr, hj', hv⟩
    have hLk : (L.setIfInBounds i true).getD k false = (L.getD k false || decide (i = k)) := by
      by_cases hik : i = k
      · subst hik
        rw [Array.getD_eq_getD_getElem?, Array.getElem?_setIfInBounds_self_of_lt (by omega)]
        simp
      · rw [Array.getD_eq_getD_getElem?, Array.getElem?_setIfInBounds_ne hik, ← Array.getD_eq_getD_getElem?]
        simp [hik]
    refine ⟨by rw [Array.size_setIfInBounds]; exact hsz, fun hLt j hw => ?_, _, hput' f v, by rw [hLk]; exact hj', fun j hjl hL => ?_⟩
    · by_cases hik : i = k
      · subst hik
        unfold lastWaits at hw
        rw [ho'] at hw
        obtain ⟨e, he, h1, h2⟩ := waits_at hw
        subst h1
        exact done_set (hd e he h2)
      · refine done_set (hcl ?_ j hw)
        rw [hLk] at hLt
        simpa [hik] using hLt
    · by_cases hji : j = i
      · rw [if_pos hji, hji]; exact hv
      · rw [if_neg hji]
        refine hT _ _ _ _ (ht j hjl ?_) hr
        rw [Array.getD_eq_getD_getElem?, Array.getElem?_setIfInBounds_ne (Ne.symm hji), ← Array.getD_eq_getD_getElem?] at hL
        exact hL
  · simp
  · have hz : ∀ j, (Array.replicate l.toArray.size false).getD j false = false := fun j => by
      rw [Array.getD_eq_getD_getElem?, Array.getElem?_replicate]
      split <;> rfl
    refine ⟨by simp, (fun h => by rw [hz] at h; cases h), f0, h0.symm, by rw [hz]; exact hJ, fun i hi hL => ?_⟩
    rw [hz] at hL
    cases hL
end Go.Proofs.YtkckncggiicciaaDoor
/-
  ReportPairs: the walk of Grown.
-/
namespace Go.Proofs.YtkckncggiicciaaDoor
open Go.RowKit
set_option maxRecDepth 100000
def CaRows (w : World) (B : Nat) (A : Option Addr) (n c : Nat) (l : List Cl) : Prop := Rd w B 10 A n c (l.map Cl.cells).flatten
theorem ca_row {w : World} {B n c : Nat} {A : Option Addr} {l : List Cl} (h : CaRows w B A n c l) (hl : l.length = n) {k : Nat} (hk : k < n) :
    ∃ b off, ∃ x : Cl, A = some ⟨b, off, none⟩ ∧ b < B ∧ x ∈ l ∧ w.rangeAt b (off + k * 10) x.cells := by
  obtain ⟨b, off, x, h1, h2, h3, h4, h5⟩ := rd_row (xss := l.map Cl.cells) h (fun x hx => by
    obtain ⟨e, _, rfl⟩ := List.mem_map.1 hx
    rfl) (by rw [List.length_map]; exact hl) hk
  rw [List.getElem?_map] at h3
  cases hq : l[k]? with
  | none => rw [hq] at h3; cases h3
  | some e =>
    rw [hq] at h3
    injection h3 with h3
    subst h3
    exact ⟨b, off, e, h1, h2, List.mem_of_getElem? hq, h5⟩
theorem size8c : (Tryd.prog.info? 60).map (·.size) = some 8 := by kernel_rfl
theorem size10k : (Tryd.prog.info? 62).map (·.size) = some 10 := by kernel_rfl
set_option maxHeartbeats 1600000 in
theorem HeavyC_any (c : Cm) (w : World) (hc : c.Ok) : Calls Tryd.prog 52 #[.agg c.cells.toArray] w (SomeB w) := by
  obtain ⟨k, key, ⟨ok, ox, os⟩, ⟨vk, vx, vs⟩⟩ := c
  have h1 := hc.key
  have h2 := hc.os
  have h3 := hc.vs
  unfold maxLen at h1 h2 h3
  have hob := one_below w (.cells #[.int .i64 k, .string key, .int .i64 ok, .float .f64 ox, .string os, .int .i64 vk, .float .f64 vx, .string vs] 60)
  have HP : Hid (∀ (b : Bool) w', Below w.heap.size w w' → SomeB w (.returned (.bool b)) w') := fun b w' hb => ⟨⟨b, rfl⟩, hb⟩
  obtain ⟨J, hJ⟩ : ∃ J, SomeB w = J := ⟨_, rfl⟩
  rw [hJ] at HP ⊢
  unfold Cm.cells
  dsimp only at *
  clear hJ hc
  rcases Decidable.em (2000 < key.size) with q1 | q1
  case' inr => rcases Decidable.em (2000 < os.size) with q2 | q2
  case' inr.inr => rcases Decidable.em (2000 < vs.size) with q3 | q3
  all_goals
    go_enter Tryd.func52, Tryd.ntmps52
    go_wp2_with fail
    all_goals exact HP.out _ _ hob
/-- A machine whose lists are its own. -/
def GM (G K : Nat) (w : World) (A : Option Addr) (n c : Nat) (B : Option Addr) (m d : Nat) : Prop := ∃ (ps : List (ByteArray × Va)) (ss : List Se), ps.length = n ∧ ss.length = m ∧ OwnP w G (.slice A n c) ps ∧ OwnSe w G (.slice B m d) ss ∧ RightP ps ∧ (∀ s ∈ ss, s.Ok) ∧ m ≤ K
theorem GM.keep {G K : Nat} {w w' : World} {A : Option Addr} {n c : Nat} {B : Option Addr} {m d : Nat} (h : GM G K w A n c B m d) (hk : ∀ g, G ≤ g → g < w.heap.size → w'.heap[g]? = w.heap[g]?) : GM G K w' A n c B m d := by
  obtain ⟨ps, ss, h1, h2, h3, h4, h5⟩ := h
  exact ⟨ps, ss, h1, h2, own_keep h3 hk, own_keep h4 hk, h5⟩
theorem GM.mono {G K K' : Nat} {w : World} {A : Option Addr} {n c : Nat} {B : Option Addr} {m d : Nat} (h : GM G K w A n c B m d) (hK : K ≤ K') : GM G K' w A n c B m d := by
  obtain ⟨ps, ss, h1, h2, h3, h4, h5, h6, h7⟩ := h
  exact ⟨ps, ss, h1, h2, h3, h4, h5, h6, Nat.le_trans h7 hK⟩
theorem gm_nil (G K : Nat) (w : World) : GM G K w none 0 0 none 0 0 := ⟨[], [], rfl, rfl, World.ownsRow_nil _ _ _ _, World.ownsRow_nil _ _ _ _, right_nil, by simp, Nat.zero_le _⟩
/-- What Grown knows of the world: the machine's row has a right machine; all else is as it was. -/
structure GJ (g : Nat) (W wr : World) (K : Nat) : Prop where
  kp : ∀ j, j < W.heap.size → j ≠ g → wr.heap[j]? = W.heap[j]?
  sz : W.heap.size ≤ wr.heap.size
  up : ∀ B (v : World), B ≤ g → Below B v W → Below B v wr
  mach : ∃ A n c B m d, wr.heap[g]? = some (.cells #[.slice A n c, .slice B m d] 44 (0, 0)) ∧ GM (g + 1) K wr A n c B m d
theorem GJ.below {g K : Nat} {W wr w1 : World} (h : GJ g W wr K) (hg : g < W.heap.size) (h1 : Below wr.heap.size wr w1) : GJ g W w1 K := by
  have hz := h.sz
  obtain ⟨A, n, c, B, m, d, q1, q2⟩ := h.mach
  exact ⟨fun i hi hib => (h1.block i (by omega)).trans (h.kp i hi hib), Nat.le_trans hz h1.size, fun B v hB hv => (h.up B v hB hv).trans (h1.mono (by omega)),
    A, n, c, B, m, d, (h1.block g (by omega)).trans q1, q2.keep fun i _ hi => h1.block i hi⟩
theorem GJ.drew {g K : Nat} {W wr : World} (h : GJ g W wr K) (hg : g < W.heap.size) (k : Nat) : GJ g W (wr.drewN k) K := h.below hg (below_drewN (Below.refl _ _) k)
theorem GJ.mono {g K K' : Nat} {W wr : World} (h : GJ g W wr K) (hK : K ≤ K') : GJ g W wr K' := by
  obtain ⟨A, n, c, B, m, d, q1, q2⟩ := h.mach
  exact ⟨h.kp, h.sz, h.up, A, n, c, B, m, d, q1, q2.mono hK⟩
/-- What was made is stored. -/
theorem GJ.put {g K : Nat} {W w1 w2 : World} (h : GJ g W w1 K) {A : Option Addr} {n c : Nat} {B : Option Addr} {m d K' : Nat} (hm : GM (g + 1) K' w1 A n c B m d) (h1 : w2.heap[g]? = some (.cells #[.slice A n c, .slice B m d] 44 (0, 0)))
    (h2 : ∀ j, j ≠ g → w2.heap[j]? = w1.heap[j]?) (h3 : ∀ B (v : World), B ≤ g → Below B v w1 → Below B v w2) : GJ g W w2 K' := by
  have hz := (h3 g w1 (Nat.le_refl _) (Below.refl _ _)).size
  exact ⟨fun i hi hib => (h2 i hib).trans (h.kp i hi hib), Nat.le_trans h.sz hz, fun B v hB hv => h3 B v hB (h.up B v hB hv), A, n, c, B, m, d, h1, hm.keep fun i h4 _ => h2 i (by omega)⟩
def TG (g K : Nat) (A : Option Addr) (n c : Nat) (B : Option Addr) (m d : Nat) (b off nl cl i : Nat) (x : Cl) : Nat → Value → World → Prop
  | 0, v, _ => v = .agg #[.slice A n c, .slice B m d]
  | 1, v, _ => v = .slice (some ⟨b, off, none⟩) nl cl
  | 2, v, _ => v = .int .i64 (i : Int)
  | 3, v, _ => v = .pointer (some ⟨b, off + i * 10, none⟩)
  | 4, v, _ => v = .agg #[.int .i64 x.cl, .int .i64 x.sq, .int .i64 x.c.k, .string x.c.key, .int .i64 x.c.old.k, .float .f64 x.c.old.x, .string x.c.old.s, .int .i64 x.c.val.k, .float .f64 x.c.val.x, .string x.c.val.s]
  | 5, v, w => ∃ A n c B m d u, v = .tuple #[.agg #[.slice A n c, .slice B m d], u] ∧ GM (g + 1) K w A n c B m d
  | 6, v, w => ∃ A n c B m d u, v = .tuple #[.agg #[.slice A n c, .slice B m d], u] ∧ GM (g + 1) K w A n c B m d
  | 7, v, w => ∃ A n c B m d, v = .agg #[.slice A n c, .slice B m d] ∧ GM (g + 1) K w A n c B m d
  | _, _, _ => True
def RG (g : Nat) (w w' : World) : Prop := ∀ i, i ≠ g → i < w.heap.size → w'.heap[i]? = w.heap[i]?
theorem rg_below {g : Nat} {w w' : World} (h : Below w.heap.size w w') : RG g w w' := fun i _ hi => h.block i hi
theorem tg_keep {g K : Nat} {A : Option Addr} {n c : Nat} {B : Option Addr} {m d b off nl cl i : Nat} {x : Cl} : ∀ (k : Nat) (v : Value) (w w' : World), TG g K A n c B m d b off nl cl i x k v w → RG g w w' → TG g K A n c B m d b off nl cl i x k v w' := by
  intro k v w w' h hr
  match k, h with
  | 0, h | 1, h | 2, h | 3, h | 4, h => exact h
  | 5, ⟨A, n, c, B, m, d, u, e, hm⟩ => exact ⟨A, n, c, B, m, d, u, e, hm.keep fun j h1 h2 => hr j (by omega) h2⟩
  | 6, ⟨A, n, c, B, m, d, u, e, hm⟩ => exact ⟨A, n, c, B, m, d, u, e, hm.keep fun j h1 h2 => hr j (by omega) h2⟩
  | 7, ⟨A, n, c, B, m, d, e, hm⟩ => exact ⟨A, n, c, B, m, d, e, hm.keep fun j h1 h2 => hr j (by omega) h2⟩
  | _ + 8, _ => trivial
def JG (g i : Nat) (W wr : World) : Bool → World → Prop
  | false, w => Below wr.heap.size wr w
  | true, w => GJ g W w (i + 1)
/-- Once in a world that has come: the machine is the row's. -/
theorem once_at {g K : Nat} {w : World} {A : Option Addr} {n c : Nat} {B : Option Addr} {m d : Nat} (h : GM (g + 1) K w A n c B m d) (hK : K ≤ 900) (hg : g < w.heap.size) (x : Cl) (hx : x.c.Ok) :
    Calls Tryd.prog 53 #[.agg #[.slice A n c, .slice B m d], .agg x.cells.toArray] w fun e w' => (∃ A n c B m d u, e = .returned (.tuple #[.agg #[.slice A n c, .slice B m d], u]) ∧ GM (g + 1) (K + 1) w' A n c B m d) ∧ Below w.heap.size w w' := by
  obtain ⟨ps, ss, h1, h2, h3, h4, h5, h6, h7⟩ := h
  obtain ⟨A', c', e1, hy⟩ := ownP_rows h3 h1
  obtain ⟨B', d', e2, hz⟩ := ownSe_rows h4 h2
  injection e1 with e1 _ e3
  injection e2 with e2 _ e4
  subst e1 e3 e2 e4
  refine (Once_any A n c B m d x ps ss w hy h1 h5 hz h2 h6 (by omega) hx).mono ?_
  rintro e w' ⟨⟨A, n, c, B, m, d, ps, ss, code, r, rfl, q1, q2, q3, q4, q5, q6, q7, _⟩, hb⟩
  exact ⟨⟨A, n, c, B, m, d, _, rfl, ps, ss, q1, q2, own_base q3 (by omega), own_base q4 (by omega), q5, q6, by omega⟩, hb⟩
set_option maxHeartbeats 12800000 in
theorem Grown_any (C : Option Addr) (nl cap : Nat) (l : List Cl) (w : World) (hy : CaRows w w.heap.size C nl cap l) (hl : l.length = nl) (ho : ∀ x ∈ l, x.c.Ok) :
    Calls Tryd.prog 26 #[.slice C nl cap] w (GrownPost w) := by
  have hkd : nl ≤ cap := hy.2.1
  have hdm : cap ≤ maxLen := hy.2.2.1
  unfold maxLen at hdm
  have HE : Hid (∀ i, i < nl → ∃ b off, ∃ x : Cl, C = some ⟨b, off, none⟩ ∧ b < w.heap.size ∧ x.c.Ok ∧ w.rangeAt b (off + i * 10) x.cells) := fun i hi => by
    obtain ⟨b, off, x, q1, q2, q3, q4⟩ := ca_row hy hl hi
    exact ⟨b, off, x, q1, q2, ho x q3, q4⟩
  have HFin : Hid (∀ (wf : World) (A : Option Addr) (n c : Nat) (B : Option Addr) (m d K : Nat), Below w.heap.size w wf → GM (w.heap.size + 1 + 1) K wf A n c B m d → GrownPost w (.returned (.agg #[.slice A n c, .slice B m d])) wf) := fun wf A n c B m d K hb h => by
    obtain ⟨ps, ss, h1, h2, h3, h4, h5, h6, h7⟩ := h
    exact ⟨⟨A, n, c, B, m, d, ps, rfl, h1, own_base h3 (by omega), h5⟩, hb⟩
  obtain ⟨J, hJ⟩ : ∃ J, GrownPost w = J := ⟨_, rfl⟩
  rw [hJ] at HFin ⊢
  have hob : Below w.heap.size w ((w.alloc (.cells #[.slice none 0 0, .slice none 0 0] 44)).alloc (.cells #[.slice none 0 0, .slice none 0 0] 44)) := two_below _ _ _
  have hr0 : ((w.alloc (.cells #[.slice none 0 0, .slice none 0 0] 44)).alloc (.cells #[.slice none 0 0, .slice none 0 0] 44)).heap[w.heap.size]? = some (.cells #[.slice none 0 0, .slice none 0 0] 44 (0, 0)) := by
    rw [Below.heap_alloc _ _ _ (by simp <;> omega)]
    exact heap_alloc_new w _
  have Hr0 := Lib.hid hr0
  have Hob := Lib.hid hob
  clear hJ hy hl ho hr0 hob
  go_enter Tryd.func26, Tryd.ntmps26
  go_wp2_with (
    (refine wpList_store_rowV rfl 44 (.tmp 3) (.tmp 5) rfl (w.heap.size + 1) #[.slice none 0 0, .slice none 0 0] rfl rfl 44 _ (heap_alloc2_at _ _ _ rfl) size2m rfl (mach_one _ _ _ _ _ _) ?_
     intro W q1 ne1 nb1))
  have hbW : Below w.heap.size w W := nb1 _ _ (by omega) Hob.out
  have hzW : w.heap.size + 2 ≤ W.heap.size := by have h := (nb1 (w.heap.size + 1) _ (Nat.le_refl _) (Below.refl _ _)).size; simpa using h
  have hgW : w.heap.size + 1 < W.heap.size := by omega
  have hrW : W.heap[w.heap.size]? = some (.cells #[.slice none 0 0, .slice none 0 0] 44 (0, 0)) := (ne1 _ (by omega)).trans Hr0.out
  have HG0 : Hid (GJ (w.heap.size + 1) W W 0) := ⟨fun _ _ _ => rfl, Nat.le_refl _, fun _ _ _ h => h, none, 0, 0, none, 0, 0, q1, gm_nil _ _ _⟩
  have HbW := Lib.hid hbW
  have HrW := Lib.hid hrW
  clear q1 ne1 nb1 hbW hrW Hr0 Hob
  go_loopg [4] nl (fun g s4 wr => ∃ i : Nat, i + g = nl ∧ i ≤ 200 ∧ s4 = .int .i64 (i : Int) ∧ GJ (w.heap.size + 1) W wr i)
  case atStart => exact ⟨0, by omega, by omega, rfl, HG0.out⟩
  case round =>
    obtain ⟨i, hig, hi2, rfl, hgj⟩ := hrel
    have Hig := Lib.hid hig
    have HG := Lib.hid hgj
    have hin : i ≤ nl := by omega
    have i0 : (0 : Int) ≤ (i : Int) := by omega
    clear hig hgj HG0
    by_cases hlt : i < nl
    · by_cases hlt2 : i < 200
      · obtain ⟨b, off, x, rfl, hb, hxk, hrg⟩ := HE.out i hlt
        have hbr : Below w.heap.size w wr := HG.out.up _ _ (by omega) HbW.out
        have HH : Hid (∀ w', Calls Tryd.prog 52 #[.agg x.c.cells.toArray] w' (SomeB w')) := fun w' => HeavyC_any x.c w' hxk
        have Hrg := Lib.hid hrg
        have X2 : Hid (wr.rangeAt b (off + i * 10 + 2) x.c.cells) := fun j v hj => by
          have hj8 : j < 8 := (List.getElem?_eq_some_iff.1 hj).1
          rw [Nat.add_assoc, Nat.add_comm 2 j]
          refine (range_below hrg hbr hb) (j + 2) v ?_
          rw [← hj]
          match j, hj8 with
          | 0, _ | 1, _ | 2, _ | 3, _ | 4, _ | 5, _ | 6, _ | 7, _ => rfl
        have Hxk := Lib.hid hxk
        have i1 : (i : Int) < (nl : Int) := by omega
        have i2 : (i : Int) < 200 := by omega
        have HL : Hid (∀ w', Below wr.heap.size wr w' → Below w.heap.size w w') := fun w' h => hbr.trans (h.mono hbr.size)
        obtain ⟨xcl, xsq, ⟨ck, key, ⟨ok, ox, os⟩, ⟨vk, vx, vs⟩⟩⟩ := x
        obtain ⟨cc, hcc⟩ : ∃ cc : Cl, cc = ⟨xcl, xsq, ⟨ck, key, ⟨ok, ox, os⟩, ⟨vk, vx, vs⟩⟩⟩ := ⟨_, rfl⟩
        have HO : Hid (∀ w' A n c B m d, GM (w.heap.size + 1 + 1) i w' A n c B m d → w.heap.size + 1 < w'.heap.size → Calls Tryd.prog 53 #[.agg #[.slice A n c, .slice B m d], .agg #[.int .i64 xcl, .int .i64 xsq, .int .i64 ck, .string key, .int .i64 ok, .float .f64 ox, .string os, .int .i64 vk, .float .f64 vx, .string vs]] w' fun e w'' => (∃ A n c B m d u, e = .returned (.tuple #[.agg #[.slice A n c, .slice B m d], u]) ∧ GM (w.heap.size + 1 + 1) (i + 1) w'' A n c B m d) ∧ Below w'.heap.size w' w'') := fun w' A n c B m d h hg =>
          once_at h (by omega) hg ⟨xcl, xsq, ⟨ck, key, ⟨ok, ox, os⟩, ⟨vk, vx, vs⟩⟩⟩ hxk
        unfold Cm.cells at HH X2
        dsimp only at HH X2
        clear hrg hxk HE hbr hcc
        go_wp2_with (
          (refine Go.wpList_load_mid rfl 60 (.tmp 19) rfl b (off + i * 10 + 2) rfl [.int .i64 ck, .string key, .int .i64 ok, .float .f64 ox, .string os, .int .i64 vk, .float .f64 vx, .string vs] _ X2.out Tryd.underlying60 rfl size8c ?_))
        refine (HH.out _).mono ?_
        rintro e w2 ⟨⟨bo, rfl⟩, hb2⟩
        have HG2 : Hid (GJ (w.heap.size + 1) W w2 i) := GJ.below HG.out (by omega) hb2
        have HL2 : Hid (∀ w', Below w2.heap.size w2 w' → Below w.heap.size w w') := fun w' h => HL.out w' (bstep hb2 h)
        clear HL X2 HH hb2
        cases bo
        · go_wp2_with fail
          obtain ⟨A, n, c, B, m, d, hrow, hgm⟩ := HG2.out.mach
          have Hrow := Lib.hid hrow
          have Hgm := Lib.hid hgm
          have hz2 := HG2.out.sz
          have HX : Hid (∀ w', Below w2.heap.size w2 w' → w'.heap[w.heap.size + 1]? = some (.cells #[.slice A n c, .slice B m d] 44 (0, 0)) ∧ GM (w.heap.size + 1 + 1) i w' A n c B m d ∧ w'.rangeAt b (off + i * 10) [.int .i64 xcl, .int .i64 xsq, .int .i64 ck, .string key, .int .i64 ok, .float .f64 ox, .string os, .int .i64 vk, .float .f64 vx, .string vs]) := fun w' h =>
            ⟨(h.block _ (by omega)).trans Hrow.out, Hgm.out.keep fun j _ hj => h.block j hj, range_below Hrg.out (HL2.out w' h) hb⟩
          clear hrow hgm
          with_reducible refine wp_region_last 9 (by decide) (by kernel_rfl) (by kernel_rfl) (JG (w.heap.size + 1) i W w2) (RG (w.heap.size + 1)) (TG (w.heap.size + 1) (i + 1) A n c B m d b off nl cap i ⟨xcl, xsq, ⟨ck, key, ⟨ok, ox, os⟩, ⟨vk, vx, vs⟩⟩⟩) tg_keep ?mk (fun f => ?hmk) ?f0 ?h0 ?hput ?hJ ?hstep ?hend
          case hmk =>
            simp only [putOps, Act.put, List.setIfInBounds_toArray, List.set_cons_succ, List.set_cons_zero, Nat.zero_add, Nat.reduceAdd]
            rfl
          case f0 => exact fun k => ([u24, u25, u26, u27, u28, u29, u23, u30, u31] : List Value).getD k undef
          case h0 => exact rfl
          case hput =>
            repeat (refine ⟨fun f v => rfl, ?_⟩)
            exact trivial
          case hJ => exact below_drewN (Below.refl w2.heap.size w2) 1
          case hstep =>
            refine ⟨fun f w1 b1 hj1 hw1 hd => ?_, ?_⟩
            · have hb0 : b1 = false := hw1 (.inr (by kernel_rfl))
              subst hb0
              have hb1 : Below w2.heap.size w2 w1 := hj1
              clear hj1 hw1
              clear hd
              obtain ⟨z0, z1, z2⟩ := HX.out w1 hb1
              have Z0 := Lib.hid z0
              clear z0 z1 z2
              go_wp2_with (refine wpList_load_row rfl 44 (.tmp 3) rfl (w.heap.size + 1) rfl 44 #[.slice A n c, .slice B m d] (0, 0) _ Z0.out Tryd.underlying44 rfl size2m ?_)
              exact ⟨_, by first | rfl | simp only [Act.put, List.setIfInBounds_toArray, List.set_cons_succ, List.set_cons_zero], rg_below (Below.refl _ _), hb1, rfl⟩
            refine ⟨fun f w1 b1 hj1 hw1 hd => ?_, ?_⟩
            · have hb0 : b1 = false := hw1 (.inr (by kernel_rfl))
              subst hb0
              have hb1 : Below w2.heap.size w2 w1 := hj1
              clear hj1 hw1
              clear hd
              go_wp2_with fail
              exact ⟨_, by first | rfl | simp only [Act.put, List.setIfInBounds_toArray, List.set_cons_succ, List.set_cons_zero], rg_below (Below.refl _ _), hb1, rfl⟩
            refine ⟨fun f w1 b1 hj1 hw1 hd => ?_, ?_⟩
            · have hb0 : b1 = false := hw1 (.inr (by kernel_rfl))
              subst hb0
              have hb1 : Below w2.heap.size w2 w1 := hj1
              clear hj1 hw1
              clear hd
              go_wp2_with fail
              exact ⟨_, by first | rfl | simp only [Act.put, List.setIfInBounds_toArray, List.set_cons_succ, List.set_cons_zero], rg_below (Below.refl _ _), hb1, rfl⟩
            refine ⟨fun f w1 b1 hj1 hw1 hd => ?_, ?_⟩
            · have hb0 : b1 = false := hw1 (.inr (by kernel_rfl))
              subst hb0
              have hb1 : Below w2.heap.size w2 w1 := hj1
              clear hj1 hw1
              obtain ⟨d0, d1, -⟩ := hd
              have q1 : f 1 = .slice (some ⟨b, off, none⟩) nl cap := d0
              have q2 : f 2 = .int .i64 (i : Int) := d1
              clear d0 d1
              go_wp2_with fail
              exact ⟨_, by first | rfl | simp only [q1, q2, Act.put, List.setIfInBounds_toArray, List.set_cons_succ, List.set_cons_zero], rg_below (Below.refl _ _), hb1, rfl⟩
            refine ⟨fun f w1 b1 hj1 hw1 hd => ?_, ?_⟩
            · have hb0 : b1 = false := hw1 (.inr (by kernel_rfl))
              subst hb0
              have hb1 : Below w2.heap.size w2 w1 := hj1
              clear hj1 hw1
              obtain ⟨d0, -⟩ := hd
              have q3 : f 3 = .pointer (some ⟨b, off + i * 10, none⟩) := d0
              clear d0
              obtain ⟨z0, z1, z2⟩ := HX.out w1 hb1
              have Z2 := Lib.hid z2
              clear z0 z1 z2
              rw [q3]
              go_wp2_with (refine Go.wpList_load_mid rfl 62 (.tmp 27) rfl b (off + i * 10) rfl [.int .i64 xcl, .int .i64 xsq, .int .i64 ck, .string key, .int .i64 ok, .float .f64 ox, .string os, .int .i64 vk, .float .f64 vx, .string vs] _ Z2.out Tryd.underlying62 rfl size10k ?_)
              exact ⟨_, by first | rfl | simp only [q3, Act.put, List.setIfInBounds_toArray, List.set_cons_succ, List.set_cons_zero], rg_below (Below.refl _ _), hb1, rfl⟩
            refine ⟨fun f w1 b1 hj1 hw1 hd => ?_, ?_⟩
            · have hb0 : b1 = false := hw1 (.inr (by kernel_rfl))
              subst hb0
              have hb1 : Below w2.heap.size w2 w1 := hj1
              clear hj1 hw1
              obtain ⟨d0, d1, -⟩ := hd
              have q0 : f 0 = .agg #[.slice A n c, .slice B m d] := d0
              have q4 : f 4 = .agg #[.int .i64 xcl, .int .i64 xsq, .int .i64 ck, .string key, .int .i64 ok, .float .f64 ox, .string os, .int .i64 vk, .float .f64 vx, .string vs] := d1
              clear d0 d1
              obtain ⟨z0, z1, z2⟩ := HX.out w1 hb1
              have Z1 := Lib.hid z1
              have hz1 := hb1.size
              clear z0 z1 z2
              rw [q0, q4]
              have HC := Lib.hid (HO.out w1 A n c B m d Z1.out (by omega))
              go_wp2_with ((with_reducible refine HC.out.mono ?_); rintro e w3 ⟨⟨A3, n3, c3, B3, m3, x3, u3, rfl, hm3⟩, hb3⟩)
              exact ⟨_, by first | rfl | simp only [q0, q4, Act.put, List.setIfInBounds_toArray, List.set_cons_succ, List.set_cons_zero], rg_below hb3, bstep hb1 hb3, A3, n3, c3, B3, m3, x3, u3, rfl, hm3⟩
            refine ⟨fun f w1 b1 hj1 hw1 hd => ?_, ?_⟩
            · have hb0 : b1 = false := hw1 (.inr (by kernel_rfl))
              subst hb0
              have hb1 : Below w2.heap.size w2 w1 := hj1
              clear hj1 hw1
              obtain ⟨d0, -⟩ := hd
              obtain ⟨A3, n3, c3, B3, m3, x3, u3, q5, hm3⟩ := d0
              have Hm3 := Lib.hid hm3
              clear hm3
              rw [q5]
              go_wp2_with fail
              exact ⟨_, by first | rfl | simp only [q5, Act.put, List.setIfInBounds_toArray, List.set_cons_succ, List.set_cons_zero], rg_below (Below.refl _ _), hb1, A3, n3, c3, B3, m3, x3, u3, rfl, Hm3.out⟩
            refine ⟨fun f w1 b1 hj1 hw1 hd => ?_, ?_⟩
            · have hb0 : b1 = false := hw1 (.inr (by kernel_rfl))
              subst hb0
              have hb1 : Below w2.heap.size w2 w1 := hj1
              clear hj1 hw1
              obtain ⟨d0, -⟩ := hd
              obtain ⟨A3, n3, c3, B3, m3, x3, u3, q6, hm3⟩ := d0
              have Hm3 := Lib.hid hm3
              clear hm3
              rw [q6]
              go_wp2_with fail
              exact ⟨_, by first | rfl | simp only [q6, Act.put, List.setIfInBounds_toArray, List.set_cons_succ, List.set_cons_zero], rg_below (Below.refl _ _), hb1, A3, n3, c3, B3, m3, x3, rfl, Hm3.out⟩
            refine ⟨fun f w1 b1 hj1 hw1 hd => ?_, ?_⟩
            · obtain ⟨d0, -⟩ := hd
              obtain ⟨A3, n3, c3, B3, m3, x3, u3, q6, hm3⟩ := d0
              clear hm3 hw1
              rw [q6]
              go_wp2_with fail
              exact ⟨_, by first | rfl | simp only [q6, Act.put, List.setIfInBounds_toArray, List.set_cons_succ, List.set_cons_zero], rg_below (Below.refl _ _), hj1, trivial⟩
            refine ⟨fun f w1 b1 hj1 hw1 hd => ?_, ?_⟩
            · have hb0 : b1 = false := hw1 (.inl rfl)
              subst hb0
              have hb1 : Below w2.heap.size w2 w1 := hj1
              clear hj1 hw1
              obtain ⟨d0, d1, d2, d3, d4, d5, d6, d7, d8, d9, -⟩ := hd
              have q0 : f 0 = .agg #[.slice A n c, .slice B m d] := d2
              have q1 : f 1 = .slice (some ⟨b, off, none⟩) nl cap := d3
              have q2 : f 2 = .int .i64 (i : Int) := d4
              have q3 : f 3 = .pointer (some ⟨b, off + i * 10, none⟩) := d5
              have q4 : f 4 = .agg #[.int .i64 xcl, .int .i64 xsq, .int .i64 ck, .string key, .int .i64 ok, .float .f64 ox, .string os, .int .i64 vk, .float .f64 vx, .string vs] := d6
              obtain ⟨A3, n3, c3, B3, m3, x3, q7, hm3⟩ := d0
              have Hm3 := Lib.hid hm3
              clear hm3 d1 d2 d3 d4 d5 d6 d7 d8 d9 q0 q1 q2 q3 q4
              obtain ⟨z0, z1, z2⟩ := HX.out w1 hb1
              have Z0 := Lib.hid z0
              clear z0 z1 z2
              have HG1 : Hid (GJ (w.heap.size + 1) W w1 i) := GJ.below HG2.out (by omega) hb1
              rw [q7]
              go_wp2_with (
                (refine wpList_store_rowV rfl 44 (.tmp 3) (.tmp 30) rfl (w.heap.size + 1) #[.slice A3 n3 c3, .slice B3 m3 x3] rfl rfl 44 _ Z0.out size2m rfl (mach_one _ _ _ _ _ _) ?_
                 intro w4 q4 ne4 nb4))
              exact ⟨by first | rfl | simp only [q7, Act.put, List.setIfInBounds_toArray, List.set_cons_succ, List.set_cons_zero], fun j hj _ => ne4 j hj, HG1.out.put Hm3.out q4 ne4 nb4, undef, trivial⟩
            exact trivial
          case hend =>
            intro f w1 hj1 hd
            have HG1 : Hid (GJ (w.heap.size + 1) W w1 (i + 1)) := hj1
            clear hd hj1
            go_wp2_with fail
            go_roundg (gk - 1)
            case rel => exact ⟨i + 1, by have := Hig.out; omega, by omega, by go_num, HG1.out⟩
            case measure => have := Hig.out; omega
        · go_wp2_with fail
          go_roundg (gk - 1)
          case rel => exact ⟨i + 1, by have := Hig.out; omega, by omega, by go_num, HG2.out.mono (by omega)⟩
          case measure => have := Hig.out; omega
      · have i1 : (i : Int) < (nl : Int) := by omega
        have i2 : ¬ (i : Int) < 200 := by omega
        clear HE hlt hlt2
        obtain ⟨A, n, c, B, m, d, hrow, hgm⟩ := HG.out.mach
        have Hrow := Lib.hid hrow
        have Hgm := Lib.hid hgm
        have hr2 : wr.heap[w.heap.size]? = some (.cells #[.slice none 0 0, .slice none 0 0] 44 (0, 0)) := (HG.out.kp _ (by omega) (by omega)).trans HrW.out
        have Hr2 := Lib.hid hr2
        have hbr : Below w.heap.size w wr := HG.out.up _ _ (by omega) HbW.out
        clear hrow hgm hr2
        go_wp2_with (first
          | (refine wpList_load_row rfl 44 (.tmp 3) rfl (w.heap.size + 1) rfl 44 #[.slice A n c, .slice B m d] (0, 0) _ Hrow.out Tryd.underlying44 rfl size2m ?_)
          | (refine wpList_store_rowV rfl 44 (.tmp 2) (.tmp 32) rfl w.heap.size #[.slice A n c, .slice B m d] rfl rfl 44 _ Hr2.out size2m rfl (mach_one _ _ _ _ _ _) ?_
             intro w4 q4 ne4 nb4))
        refine bodyPost_ret (results_cell_row Tryd.results26 _ _ w.heap.size _ #[.slice A n c, .slice B m d] (0, 0) _ rfl q4 Tryd.underlying44 rfl size2m) rfl ?_
        exact HFin.out w4 A n c B m d _ (nb4 _ _ (Nat.le_refl _) hbr) (Hgm.out.keep fun j h1 _ => ne4 j (by omega))
    · have i1 : ¬ (i : Int) < (nl : Int) := by omega
      clear HE hlt
      obtain ⟨A, n, c, B, m, d, hrow, hgm⟩ := HG.out.mach
      have Hrow := Lib.hid hrow
      have Hgm := Lib.hid hgm
      have hr2 : wr.heap[w.heap.size]? = some (.cells #[.slice none 0 0, .slice none 0 0] 44 (0, 0)) := (HG.out.kp _ (by omega) (by omega)).trans HrW.out
      have Hr2 := Lib.hid hr2
      have hbr : Below w.heap.size w wr := HG.out.up _ _ (by omega) HbW.out
      clear hrow hgm hr2
      go_wp2_with (first
        | (refine wpList_load_row rfl 44 (.tmp 3) rfl (w.heap.size + 1) rfl 44 #[.slice A n c, .slice B m d] (0, 0) _ Hrow.out Tryd.underlying44 rfl size2m ?_)
        | (refine wpList_store_rowV rfl 44 (.tmp 2) (.tmp 32) rfl w.heap.size #[.slice A n c, .slice B m d] rfl rfl 44 _ Hr2.out size2m rfl (mach_one _ _ _ _ _ _) ?_
           intro w4 q4 ne4 nb4))
      refine bodyPost_ret (results_cell_row Tryd.results26 _ _ w.heap.size _ #[.slice A n c, .slice B m d] (0, 0) _ rfl q4 Tryd.underlying44 rfl size2m) rfl ?_
      exact HFin.out w4 A n c B m d _ (nb4 _ _ (Nat.le_refl _) hbr) (Hgm.out.keep fun j h1 _ => ne4 j (by omega))
end Go.Proofs.YtkckncggiicciaaDoor
/-
  ReportPairs, of any calls.
-/
namespace Go.Proofs.YtkckncggiicciaaDoor
open Go.RowKit
theorem pairs_walk (C : Option Addr) (nl cap : Nat) (l : List Cl) (W : World) (hy : CaRows W W.heap.size C nl cap l) (hl : l.length = nl) (ho : ∀ x ∈ l, x.c.Ok) (hT : TzAt W) (hI : ItAt W) (hE : ErrAt W) :
    Calls Tryd.prog 6 #[.slice C nl cap] W fun e w' => e = .returned (.bool true) ∧ Below W.heap.size W w' :=
  pairs_main C nl cap W (Grown_any C nl cap l W hy hl ho) hT hI hE
end Go.Proofs.YtkckncggiicciaaDoor
/-
  From a law's walk to its row: what was there reads as it did. And: how arguments come in.
-/
namespace Go.Proofs.YtkckncggiicciaaDoor
open Go.RowKit Go.ChangeShapes Go.WideShapes Go.ChangeAt
set_option maxRecDepth 100000
theorem Tryd.ownKnob : ownKnob Tryd.prog.godebug = none := by kernel_rfl
theorem Tryd.laidOut : laidOutB Tryd.prog = true := by kernel_rfl
theorem law_args {H : Type} {enc : TypeId × Value → H} {P : Program} (hl : laidOutB P = true) {W W' : World} (hb : Below W.heap.size W W') :
    ∀ {ts : List TypeId} {vs : List Value} {ds : List (DataW H)} {ps : List MemPlace}, (∀ t ∈ ts, P.readableRec t = true ∧ t < P.types.size) →
      DataW.TrodAll enc P W 0 (fun _ => true) true ts vs ds ps → (∀ x ∈ ps, x.block < W.heap.size) → DataW.TrodAll enc P W' 0 (fun b => decide (b < W.heap.size)) true ts vs ds ps
  | [], vs, ds, ps, _, h, _ => by
    obtain ⟨rfl, rfl, rfl⟩ := trodAll_nil h
    exact trodAll_mk0
  | t :: ts, vs, ds, ps, ht, h, hlt => by
    obtain ⟨v, vs', d, ds', p, q, rfl, rfl, rfl, h0, hs⟩ := trodAll_cons h
    exact trodAll_cons_mk (Below.trod hl (ht t (by simp)).1 (ht t (by simp)).2 h0 hb (fun x hx => hlt x (by simp [hx])))
      (law_args hl hb (fun x hx => ht x (by simp [hx])) hs (fun x hx => hlt x (by simp [hx])))
/-- A LAW's ROW's LAST STEP: it has returned true, and nothing that was there has turned. -/
theorem law_post {H : Type} {enc : TypeId × Value → H} {f : Func} {s : ChangeSpec} {W W' : World} {args : Array Value} {ds gs : List (DataW H)} {before : List MemPlace} (tb : TypeId)
    (hres : f.resultTypes = #[tb]) (hbool : Tryd.prog.underlying tb = some .bool) (hvars : s.vars = []) (hts : f.params.toList.all (fun t => Tryd.prog.readableRec t && decide (t < Tryd.prog.types.size)) = true)
    (hW : DataW.Whole enc Tryd.prog f.params.toList s.vars false W args.toList ds gs before)
    (hfn : s.fn H (ds ++ gs) = { results := [.lit (.bool true)], args := ds }) (hb : Below W.heap.size W W') :
    s.post enc Tryd.prog f false true false false W args (.bool true) W' := by
  have hlt : ∀ p ∈ before, p.block < W.heap.size := fun p hp => hW.lt p hp
  have hW0 := hW
  obtain ⟨p, q, hA, hV, rfl, _, _⟩ := hW
  rw [hvars] at hV
  obtain ⟨rfl, rfl⟩ := trodVars_none hV
  have hts' : ∀ t ∈ f.params.toList, Tryd.prog.readableRec t = true ∧ t < Tryd.prog.types.size := fun t ht => by
    have := (List.all_eq_true.1 hts) t ht
    simpa using this
  refine ⟨ds, [], p ++ [], [], p, [], hW0, ?_, ?_, ?_, hb.frame _ |> World.keptBut_mono (fun _ h => h), fun h => by cases h⟩
  · rw [hfn, hres]
    exact trodAll_mk1 (shut_bool hbool true)
  · rw [hfn]
    exact law_args Tryd.laidOut hb hts' hA (fun x hx => hlt x (by simp [hx]))
  · rw [hfn, hvars]
    rfl
theorem cells_one {w : World} {base : Nat} {a : Addr} {cs : List Value} (h : w.cells? base a 1 = some cs) : ∃ v, cs = [v] ∧ w.cell? a = some v := by
  unfold World.cells? at h
  split at h
  · have h0 : a.add 0 = a := by simp [Addr.add]
    rw [show List.range 1 = [0] from rfl] at h
    simp only [List.mapM_cons, List.mapM_nil, h0] at h
    cases hc : w.cell? a with
    | none => rw [hc] at h; cases h
    | some v => rw [hc] at h; cases h; exact ⟨v, rfl, rfl⟩
  · cases h
theorem law_i64 {x : Int} (w : (Lit.int .i64 x).wf = true) : -9223372036854775808 ≤ x ∧ x ≤ 9223372036854775807 := by
  simpa [Lit.wf, IntKind.min, IntKind.max, IntKind.signed, IntKind.bits] using w
/-- A float's cell. -/
theorem trod_float {H : Type} {enc : TypeId × Value → H} {W : World} {base : Nat} {spare : Nat → Bool} {held : Bool} {fuel : Nat} {cs : List Value} {x : DataW H × List MemPlace} (h : DataW.trod enc Tryd.prog W base spare held fuel 35 cs = some x) :
    ∃ b, cs = [.float .f64 b] ∧ b < 18446744073709551616 := by
  cases fuel with
  | zero => simp [DataW.trod] at h
  | succ n =>
    simp only [DataW.trod, Tryd.underlying35] at h
    match cs, h with
    | [.float k b], h =>
      cases k
      · simp at h
      · refine ⟨b, rfl, ?_⟩
        by_cases hw : (Lit.float .f64 b).wf = true
        · simpa [Lit.wf] using hw
        · simp [hw] at h
theorem law_float {H : Type} {enc : TypeId × Value → H} {W : World} {base : Nat} {v : Value} {d : DataW H} {ps : List MemPlace} (hv : Value.okWide Tryd.prog W .any base 35 v)
    (h : DataW.Trod enc Tryd.prog W 0 (fun _ => true) true 35 v d ps) : ∃ b, v = .float .f64 b ∧ b < 18446744073709551616 := by
  obtain ⟨b, rfl⟩ := okWide_float Tryd.underlying35 hv
  obtain ⟨fuel, hf⟩ := h
  obtain ⟨b', e, hb⟩ := trod_float hf
  simp [Value.cells] at e
  subst e
  exact ⟨_, rfl, hb⟩
end Go.Proofs.YtkckncggiicciaaDoor
/-
  What the listed variables give the walks; the door's own heap meets the condition.
-/
namespace Go.Proofs.YtkckncggiicciaaDoor
open Go.RowKit Go.ChangeShapes Go.WideShapes Go.ChangeAt
set_option maxRecDepth 100000
def doorSteps : Nat := 62
def laid3 : List (String × DataW Unit) := [("math/bits.deBruijn32tab", Rows.laid_math_bits_deBruijn32tab), ("math/bits.deBruijn64tab", Rows.laid_math_bits_deBruijn64tab), ("internal/strconv.uint64pow10", Rows.laid_internal_strconv_uint64pow10)]
theorem door_met (os : Os) (args : Array Value) : laidMetH Tryd.prog laid3 ((World.doorLaid Tryd.prog doorSteps os).forCall (fun _ _ => 0) ⟨#[], args, []⟩).memory :=
  laidMetH_of_parts3 (fuel := 8) (laidMet_of_run' 8 (by kernel_rfl) (by kernel_rfl)) (by kernel_rfl) (by kernel_rfl)
def deB : List Int := [0, 1, 56, 2, 57, 49, 28, 3, 61, 58, 42, 50, 38, 29, 17, 4, 62, 47, 59, 36, 45, 43, 51, 22, 53, 39, 33, 30, 24, 18, 12, 5, 63, 55, 48, 27, 60, 41, 37, 16, 46, 35, 44, 21, 52, 32, 23, 11, 54, 26, 40, 15, 34, 20, 31, 10, 25, 14, 19, 9, 13, 8, 7, 6]
theorem deB_named : Tryd.prog.globalNamed "math/bits.deBruijn64tab" = some 6 := by kernel_rfl
theorem tz_of_list {rest : List (String × DataW Unit)} {d : DataW Unit} {W : World} (h : laidMet Tryd.prog (("math/bits.deBruijn32tab", d) :: ("math/bits.deBruijn64tab", Lib.tabData .u8 deB) :: rest) W) :
    W.cell? ⟨6, 15, none⟩ = some (.int .u8 4) := by
  have ht : Lib.TabIs Tryd.prog W "math/bits.deBruijn64tab" .u8 deB :=
    Lib.tabIs_of_head (t := 188) (e := 5) (n := 64) deB_named (by kernel_rfl) Tryd.underlying188 Tryd.underlying5 (by kernel_rfl) (by kernel_rfl) h.tail
  exact Lib.TabIs.cell ht deB_named 15 (by decide)
theorem tz_of_laid {W : World} (h : laidMetH Tryd.prog laid3 W) : W.cell? ⟨6, 15, none⟩ = some (.int .u8 4) := by
  rw [MakeChecks.laidMetH_plain _ _ _ (by kernel_rfl)] at h
  exact tz_of_list h
end Go.Proofs.YtkckncggiicciaaDoor
/-
  The walk of ReportLags.
-/
namespace Go.Proofs.YtkckncggiicciaaDoor
open Go.RowKit
set_option maxRecDepth 100000
def iV (c : Int) : Value := .int .i64 c
theorem line_app (id lag : Int) : (⟨(lineL id lag).toArray⟩ : ByteArray) = ((⟨#[108, 97, 103, 32]⟩ ++ ⟨(Lib.itoa id).toArray⟩ : ByteArray) ++ ⟨#[32]⟩) ++ ⟨(Lib.itoa lag).toArray⟩ := by
  show _ = ((⟨[108, 97, 103, 32].toArray⟩ ++ ⟨(Lib.itoa id).toArray⟩ : ByteArray) ++ ⟨[32].toArray⟩) ++ ⟨(Lib.itoa lag).toArray⟩
  rw [bytes_app, bytes_app, bytes_app]
  congr 1
  unfold lineL wordsL
  rw [Lib.join_cons]
  simp [Lib.joinTail]
theorem linesL_at {ids : List Int} {ks : List Nat} {j : Nat} {id : Int} {k : Nat} (h1 : ids[j]? = some id) (h2 : ks[j]? = some k) : ((linesL ids ks).map sV)[j]? = some (sV (lineL id (k : Int))) := by
  unfold linesL
  rw [List.getElem?_map, List.getElem?_zipWith, h1, h2]
  rfl
set_option maxHeartbeats 6400000 in
theorem lags_walk (A : Option Addr) (n cap : Nat) (cs : List Int) (W : World) (hy : Rd W W.heap.size 1 A n cap (cs.map iV)) (h64 : ∀ c ∈ cs, In64 c) (hI : ItAt W) :
    Calls Tryd.prog 3 #[.slice A n cap] W fun e w' => e = .returned (.bool true) ∧ Below W.heap.size W w' := by
  have hlen : cs.length = n := by simpa using hy.1
  have hcap : n ≤ cap := hy.2.1
  rcases Nat.eq_zero_or_pos n with rfl | hpos
  · clear hy h64 hI hlen
    go_enter Tryd.func3, Tryd.ntmps3
    go_wp2_with fail
    go_ret
    exact ⟨rfl, Below.refl _ _⟩
  have hz : ((n : Int) == 0) = false := by simp; omega
  rcases Decidable.em (40 < n) with h40 | h40
  · clear hy h64 hI hlen
    go_enter Tryd.func3, Tryd.ntmps3
    go_wp2_with fail
    go_ret
    exact ⟨rfl, Below.refl _ _⟩
  obtain ⟨_, _, _, h4⟩ := hy
  obtain ⟨b, off, rfl, hb, hcell⟩ := h4 hpos
  have HC : Hid (∀ i, i < n → ∃ c, cs[i]? = some c ∧ cs.getD i 0 = c ∧ In64 c ∧ W.cell? ⟨b, off + i, none⟩ = some (.int .i64 c)) := fun i hi => by
    have hi' : i < cs.length := by omega
    refine ⟨cs[i], List.getElem?_eq_getElem hi', by simp [List.getD, hi'], h64 _ (List.getElem_mem hi'), hcell i _ ?_⟩
    rw [List.getElem?_map, List.getElem?_eq_getElem hi']
    rfl
  obtain ⟨c0, hc0, hg0, h640, hw0⟩ := HC.out 0 hpos
  rw [Nat.add_zero] at hw0
  have HI := Lib.hid hI
  have Hlen := Lib.hid hlen
  have H64 := Lib.hid h64
  have Hc0 := Lib.hid hc0
  clear hI hlen hcell h4 h64 hc0 hg0 h640
  go_enter Tryd.func3, Tryd.ntmps3
  go_wp2_with fail
  go_loopg [3, 4, 5] n (fun g s3 s4 s5 wr => ∃ i : Nat, i + g = n ∧ s5 = .int .i64 i ∧ s4 = .int .i64 (topL c0 (cs.take i)) ∧ OwnR wr W.heap.size s3 (raftsL cs i) ∧ (∀ c ∈ cs.take i, 0 ≤ c ∧ c ≤ 549755813888) ∧ Below W.heap.size W wr)
  case atStart => exact ⟨0, by omega, rfl, rfl, ownR_nil _ _, fun c h => by simp at h, Below.refl _ _⟩
  case round =>
    obtain ⟨i, hig, rfl, rfl, ho, hbd, hbr⟩ := hrel
    have Hig := Lib.hid hig
    have Ho := Lib.hid ho
    have Hbd := Lib.hid hbd
    have hin : i ≤ n := by omega
    clear hig ho hbd
    by_cases hlt : i < n
    · obtain ⟨ci, hce, hgd, h64i, hci⟩ := HC.out i hlt
      have hcell : wr.cell? ⟨b, off + i, none⟩ = some (.int .i64 ci) := (hbr.cell (p := ⟨b, off + i, none⟩) hb).trans hci
      have Htk : Hid (cs.take (i + 1) = cs.take i ++ [ci]) := by
        unfold Hid
        rw [List.take_add_one, hce]
        rfl
      have Hrl : Hid (raftsL cs (i + 1) = raftsL cs i ++ [mkR ((i : Int) % 7) ci]) := by
        unfold Hid
        rw [raftsL_succ, hgd]
      obtain ⟨tp, htp⟩ : ∃ tp, topL c0 (cs.take i) = tp := ⟨_, rfl⟩
      have Htp : Hid (topL c0 (cs.take (i + 1)) = max tp ci) := by
        unfold Hid
        rw [Htk.out, topL_snoc, htp]
      rw [htp]
      have Hci := Lib.hid hci
      clear hce hgd h64i hci htp
      rcases Decidable.em (0 ≤ ci ∧ ci ≤ 549755813888) with hb2 | hb2
      · have Hbd2 : Hid (∀ c ∈ cs.take (i + 1), 0 ≤ c ∧ c ≤ 549755813888) := fun c h => by
          rw [Htk.out, List.mem_append] at h
          rcases h with h | h
          · exact Hbd.out c h
          · simp at h; subst h; exact hb2
        obtain ⟨hlo, hhi⟩ := hb2
        go_wp2_with (at_builtin
                     refine wpList_appR rfl (.tmp 39) (.tmp 47) rfl W.heap.size u3 _ rfl (World.ownsRow.alloc Ho.out _) (wr.heap.size + 1) wr.heap.size (mkR ((i : Int) % 7) ci) rfl rfl (rd_struct wr (mkR ((i : Int) % 7) ci) _) (mkR_one _ _) ?c1 ?c2 ?_
                     case c1 => rw [raftsL_len]; omega
                     case c2 => simp; have := hbr.size; omega
                     intro v4 w4 ho4 hg4
                     have hb4 : Below W.heap.size W w4 := (hbr.alloc hbr.size _).grown hg4 (by simp; have := hbr.size; omega) (fun q hq => (World.ownsRow.lt Ho.out q hq).1)
                     have hcell4 : w4.cell? ⟨b, off + i, none⟩ = some (.int .i64 ci) := (hb4.cell (p := ⟨b, off + i, none⟩) hb).trans Hci.out
                     have Ho4 := Lib.hid ho4
                     clear ho4 hg4)
        have Hon : Hid (OwnR w4 W.heap.size v4 (raftsL cs (i + 1))) := by
          unfold Hid
          rw [Hrl.out]
          exact Ho4.out
        go_roundg (gk - 1)
        case rel => exact ⟨i + 1, by have := Hig.out; omega, by go_num, by rw [Htp.out], Hon.out, Hbd2.out, hb4⟩
        case measure => have := Hig.out; omega
      · rcases Decidable.em (ci < 0) with hlo | hlo
        case' inr => have hhi : 549755813888 < ci := by omega
        all_goals
          clear hb2
          go_wp2_with fail
          go_ret
          exact ⟨rfl, hbr⟩
    · obtain rfl : i = n := by omega
      have hall : cs.take i = cs := List.take_of_length_le (by rw [Hlen.out]; exact Nat.le_refl _)
      have hbd := Hbd.out
      rw [hall] at hbd ⊢
      have htm : topL c0 cs ∈ cs := by
        rcases topL_mem c0 cs with h | h
        · rw [h]; exact List.mem_of_getElem? Hc0.out
        · exact h
      have htg := (topL_ge c0 cs).2
      have hhd : cs.headD 0 = c0 := by
        have h := Hc0.out
        cases cs with
        | nil => simp at h
        | cons a r => simp at h ⊢; exact h
      obtain ⟨T, hT⟩ : ∃ T, topL c0 cs = T := ⟨_, rfl⟩
      rw [hT] at htm htg ⊢
      obtain ⟨tN, htN⟩ : ∃ tN : Nat, T = (tN : Int) := ⟨T.toNat, by have := hbd T htm; omega⟩
      subst htN
      have htb := hbd _ htm
      -- the lags
      obtain ⟨ks, hks⟩ : ∃ ks : List Nat, ks = cs.map fun c => ((tN : Int) - c).toNat := ⟨_, rfl⟩
      have hkl : ks.length = i := by rw [hks, List.length_map, Hlen.out]
      have hkat : ∀ (j : Nat) c, cs[j]? = some c → ∃ k : Nat, ks[j]? = some k ∧ (k : Int) = (tN : Int) - c := fun j c hj => by
        refine ⟨((tN : Int) - c).toNat, by rw [hks, List.getElem?_map, hj]; rfl, ?_⟩
        have := htg c (List.mem_of_getElem? hj)
        omega
      have hkle : ∀ k ∈ ks, k ≤ tN := fun k hk => by
        rw [hks] at hk
        obtain ⟨c, hc, rfl⟩ := List.mem_map.1 hk
        have := (hbd c hc).1
        omega
      have hk0 : 0 ∈ ks := by
        rw [hks]
        exact List.mem_map.2 ⟨_, htm, by omega⟩
      have hokc : okC cs = true := by
        unfold okC
        rw [List.all_eq_true]
        intro c hc
        have := hbd c hc
        simp
        omega
      have hmean : meanV (ks.map fi) ≤ fi tN := mean_fi (by omega) (by omega) (by omega) hkle
      have hfi := fi_le (m := tN) (by omega)
      obtain ⟨hn1, hr1⟩ := small_right (x := meanV (ks.map fi)) (by omega)
      obtain ⟨hn2, hr2⟩ := small_right (x := fi tN) hfi
      have hge := cmp_ge (meanV (ks.map fi)) 0
      have hle := cmp_le (meanV (ks.map fi)) (fi tN)
      rw [hn1, hr1, show isNan 0 = false from rfl, rk_zero] at hge
      rw [hn1, hn2, hr1, hr2] at hle
      have hge' : (!false && !false && decide ((0 : Int) ≤ (meanV (ks.map fi) : Int))) = true := by simp
      have hle' : (!false && !false && decide ((meanV (ks.map fi) : Int) ≤ (fi tN : Int))) = true := by simpa using hmean
      rw [hge'] at hge
      rw [hle'] at hle
      have HLG : Hid (∀ A' c', Rd wr wr.heap.size 40 A' i c' (raftsL cs i).flatten → Calls Tryd.prog 7 #[.slice A' i c'] wr fun e w' => (∃ A6 c6, e = .returned (.tuple #[.slice A6 i c6, .float .f64 (meanV (ks.map fi))]) ∧ Rd w' w'.heap.size 1 A6 i c6 ((linesL (idsL i) ks).map sV)) ∧ Below wr.heap.size wr w') := fun A' c' hrd => by
        refine (RLags_any A' i c' (raftsL cs i) (idsL i) cs ks wr hrd (raftsL_len _ _) (by simp [idsL]) Hlen.out hkl ?_ ?_ H64.out ?_ (by omega) (HI.out.below hbr)).mono ?_
        · intro j x hj
          obtain ⟨h1, rfl⟩ := raftsL_at hj
          obtain ⟨cj, q1, q2, _, _⟩ := HC.out j h1
          exact ⟨_, _, idsL_at h1, q1, by rw [q2]; exact mkR_ok _ _⟩
        · intro id hid
          unfold idsL at hid
          obtain ⟨q, _, rfl⟩ := List.mem_map.1 hid
          unfold In64
          omega
        · intro _ j c hj
          rw [hhd, hT]
          exact hkat j c hj
        · intro e w' h
          unfold LagsPost at h
          rw [if_pos hokc] at h
          obtain ⟨⟨v, he, ho⟩, hb'⟩ := h
          obtain ⟨A6, c6, rfl, hr6⟩ := ownS_rd ho (n := i) (by rw [linesL_len _ _ (by rw [hkl]; simp [idsL]), hkl])
          exact ⟨⟨A6, c6, he, hr6⟩, hb'⟩
      have Hmin := Lib.hid (minL_mem 1099511627776 ks (by omega) hk0)
      have Hkat := Lib.hid hkat
      have Hkl := Lib.hid hkl
      have hfe := fi_eq tN
      obtain ⟨mv, hmv⟩ : ∃ mv, meanV (ks.map fi) = mv := ⟨_, rfl⟩
      rw [hmv] at hge hle HLG
      obtain ⟨A', c', rfl, hrd⟩ := Rd.of_own Ho.out
      rw [raftsL_len] at hrd ⊢
      have HLG2 := Lib.hid (HLG.out A' c' hrd)
      have Htg := Lib.hid htg
      have Hbd1 := Lib.hid hbd
      have htb2 : (tN : Int) ≤ 549755813888 := htb.2
      have htb0 : (0 : Int) ≤ (tN : Int) := htb.1
      clear hall hbd htm htg hhd hT htb hks hkl hkat hkle hk0 hokc hmean hfi hn1 hr1 hn2 hr2 hge' hle' hmv hrd HLG Ho Hbd Hig
      go_wp2_with fail
      refine HLG2.out.mono ?_
      rintro e w2 ⟨⟨A6, c6, rfl, hr6⟩, hb2⟩
      have hbw2 := hbr.trans (hb2.mono hbr.size)
      obtain ⟨_, _, _, hr64⟩ := hr6
      obtain ⟨b6, off6, rfl, hb6, hcell6⟩ := hr64 hpos
      have Hcell6 := Lib.hid hcell6
      clear hr64 hcell6 hb2 HLG2
      go_wp2_with fail
      go_loopg [8, 9] i (fun g s8 s9 wr2 => ∃ j : Nat, j + g = i ∧ s9 = .int .i64 j ∧ s8 = .int .i64 (minL 1099511627776 (ks.take j)) ∧ Below w2.heap.size w2 wr2)
      case atStart => exact ⟨0, by omega, rfl, rfl, Below.refl _ _⟩
      case round =>
        obtain ⟨j, hjg, rfl, rfl, hb3⟩ := hrel
        have Hjg := Lib.hid hjg
        have hjn : j ≤ i := by omega
        clear hjg
        by_cases hlt : j < i
        · obtain ⟨cj, hce, _, _, hcj⟩ := HC.out j hlt
          obtain ⟨k, hke, hkv⟩ := Hkat.out j cj hce
          have hline := Hcell6.out j _ (linesL_at (idsL_at hlt) hke)
          have hi7 : In64 ((j : Int) % 7) := by unfold In64; omega
          have hcj64 := H64.out cj (List.mem_of_getElem? hce)
          have hkge := Htg.out cj (List.mem_of_getElem? hce)
          have hcj0 := (Hbd1.out cj (List.mem_of_getElem? hce)).1
          have hkb : (k : Int) ≤ 549755813888 := by omega
          have hk64 : In64 (k : Int) := by
            unfold In64
            omega
          have HS : Hid (∀ w', Below w2.heap.size w2 w' → w'.cell? ⟨b6, off6 + j, none⟩ = some (.string ⟨(lineL ((j : Int) % 7) (k : Int)).toArray⟩) ∧ w'.cell? ⟨b, off + j, none⟩ = some (.int .i64 cj)) := fun w' h =>
            ⟨(h.cell (p := ⟨b6, off6 + j, none⟩) hb6).trans hline, (h.cell (p := ⟨b, off + j, none⟩) (Nat.lt_of_lt_of_le hb hbw2.size)).trans ((hbw2.cell (p := ⟨b, off + j, none⟩) hb).trans hcj)⟩
          have HN1 : Hid (∀ w', Below w2.heap.size w2 w' → Calls Tryd.prog 8 #[.int .i64 ((j : Int) % 7)] w' fun e w'' => e = .returned (.string ⟨(Lib.itoa ((j : Int) % 7)).toArray⟩) ∧ Below w'.heap.size w' w'') := fun w' h => Itoa_any _ w' hi7 (HI.out.below (hbw2.trans (h.mono hbw2.size)))
          have HN2 : Hid (∀ w', Below w2.heap.size w2 w' → Calls Tryd.prog 8 #[.int .i64 (k : Int)] w' fun e w'' => e = .returned (.string ⟨(Lib.itoa (k : Int)).toArray⟩) ∧ Below w'.heap.size w' w'') := fun w' h => Itoa_any _ w' hk64 (HI.out.below (hbw2.trans (h.mono hbw2.size)))
          have hla := line_app ((j : Int) % 7) (k : Int)
          have q1 := Lib.itoa_length_le _ hi7.1 hi7.2
          have q2 := Lib.itoa_length_le _ hk64.1 hk64.2
          obtain ⟨B1, hB1⟩ : ∃ B1, (⟨(Lib.itoa ((j : Int) % 7)).toArray⟩ : ByteArray) = B1 := ⟨_, rfl⟩
          obtain ⟨B2, hB2⟩ : ∃ B2, (⟨(Lib.itoa (k : Int)).toArray⟩ : ByteArray) = B2 := ⟨_, rfl⟩
          obtain ⟨LB, hLB⟩ : ∃ LB, (⟨(lineL ((j : Int) % 7) (k : Int)).toArray⟩ : ByteArray) = LB := ⟨_, rfl⟩
          have z1 : B1.size ≤ 21 := by rw [← hB1]; show (Lib.itoa _).toArray.size ≤ 21; rw [List.size_toArray]; exact q1
          have z2 : B2.size ≤ 21 := by rw [← hB2]; show (Lib.itoa _).toArray.size ≤ 21; rw [List.size_toArray]; exact q2
          rw [hB1] at HN1 hla
          rw [hB2] at HN2 hla
          rw [hLB] at HS hla
          have hq : (LB.toList == ((⟨#[108, 97, 103, 32]⟩ ++ B1 ++ ⟨#[32]⟩ ++ B2 : ByteArray)).toList) = true := by rw [hla]; simp
          have hsub : (tN : Int) - cj = (k : Int) := hkv.symm
          have Hks : Hid (ks.take (j + 1) = ks.take j ++ [k]) := by unfold Hid; rw [List.take_add_one, hke]; rfl
          have hk0 : (0 : Int) ≤ (k : Int) := by omega
          obtain ⟨ml, hml⟩ : ∃ ml, minL 1099511627776 (ks.take j) = ml := ⟨_, rfl⟩
          have Hml : Hid (minL 1099511627776 (ks.take (j + 1)) = min ml (k : Int)) := by
            unfold Hid
            rw [Hks.out, minL_snoc, hml]
          rw [hml]
          obtain ⟨y0, y1⟩ := HS.out _ hb3
          clear hce hcj hke hkv hline hi7 hk64 q1 q2 hB1 hB2 hLB hla hml hcj64 hkge hcj0
          go_wp2_with fail
          have htm : (j : Int).tmod 7 = (j : Int) % 7 := Int.tmod_eq_emod_of_nonneg (by omega)
          have m1 : ¬ 9223372036854775807 < 4 + B1.size := by omega
          have m2 : ¬ 9223372036854775807 < 4 + B1.size + 1 := by omega
          have m3 : ¬ 9223372036854775807 < 4 + B1.size + 1 + B2.size := by omega
          have hwr : IntKind.i64.wrap (k : Int) = (k : Int) := IntWalk.i64_in _ (by omega)
          go_region_held3 (fun w' => w'.cell? ⟨b6, off6 + j, none⟩ = some (.string LB) ∧ w'.cell? ⟨b, off + j, none⟩ = some (.int .i64 cj))
            ((first | assumption | exact HS.out _ (by assumption) | exact HS.out _ (Below.drew (by assumption))))
            ((first
              | (go_at_call 8
                 (with_reducible refine (HN1.out _ (by first | assumption | exact Below.drew (by assumption))).mono ?_)
                 rintro e w6 ⟨rfl, hb6'⟩
                 have hb6q : Below w2.heap.size w2 w6 := Below.trans (by first | assumption | exact Below.drew (by assumption)) (hb6'.mono (Below.size (by first | assumption | exact Below.drew (by assumption)))))
              | (go_at_call 8
                 (with_reducible refine (HN2.out _ (by first | assumption | exact Below.drew (by assumption))).mono ?_)
                 rintro e w7 ⟨rfl, hb7'⟩
                 have hb7q : Below w2.heap.size w2 w7 := Below.trans (by first | assumption | exact Below.drew (by assumption)) (hb7'.mono (Below.size (by first | assumption | exact Below.drew (by assumption)))))))
          all_goals
            obtain ⟨x0, x1⟩ := HS.out _ hb7q
            clear y0 y1 htm hwr m1 m2 m3
            go_wp2_with fail
            go_roundg (gk - 1)
          all_goals first
            | exact ⟨j + 1, by have := Hjg.out; omega, by go_num, by rw [Hml.out], hb7q⟩
            | (have := Hjg.out; omega)
        · obtain rfl : j = i := by omega
          have hmin : minL 1099511627776 (ks.take j) = 0 := by
            rw [List.take_of_length_le (by rw [Hkl.out]; exact Nat.le_refl _)]
            exact Hmin.out
          rw [hmin]
          have hbf := hbw2.trans (hb3.mono hbw2.size)
          have HWK : Hid (∀ w', Below W.heap.size W w' → Calls Tryd.prog 9 #[] w' fun e w'' => e = .returned (.bool true) ∧ Below w'.heap.size w' w'') := fun w' h => rwakes_any w' (HI.out.below h)
          clear hmin
          go_wp2_with (refine (HWK.out _ hbf).mono ?_; rintro e w9 ⟨rfl, hb9⟩)
          go_ret
          exact ⟨rfl, hbf.trans (hb9.mono hbf.size)⟩
end Go.Proofs.YtkckncggiicciaaDoor
/-
  A slice of whole numbers that came in; the powers of ten, where they lie.
-/
namespace Go.Proofs.YtkckncggiicciaaDoor
open Go.RowKit Go.ChangeShapes Go.WideShapes Go.ChangeAt
set_option maxRecDepth 100000
theorem law_ints {H : Type} {enc : TypeId × Value → H} {W : World} {base : Nat} {v : Value} {d : DataW H} {ps : List MemPlace} (hv : Value.okWide Tryd.prog W .any base 22 v)
    (h : DataW.Trod enc Tryd.prog W 0 (fun _ => true) true 22 v d ps) : ∃ A n cap, ∃ l : List Int, v = .slice A n cap ∧ Rd W W.heap.size 1 A n cap (l.map iV) ∧ ∀ x ∈ l, In64 x := by
  obtain ⟨a0, len, cap, rfl⟩ := okWide_slice Tryd.underlying22 hv
  obtain ⟨fuel, hf⟩ := h
  rcases DataW.trod_slice Tryd.underlying22 hf with ⟨hcs, _⟩ | ⟨a, len', cap', elems, rest, fl, _, hcs, _, _, hl, hm, hel, hat, _, _⟩
  · simp [Value.cells] at hcs
    obtain ⟨rfl, rfl, rfl⟩ := hcs
    exact ⟨none, 0, 0, [], rfl, Rd.nil _ _ _, by simp⟩
  · simp [Value.cells] at hcs
    obtain ⟨rfl, rfl, rfl⟩ := hcs
    have hce : Tryd.prog.cellsOf 3 = 1 := by kernel_rfl
    have each : ∀ i, i < len → ∃ b, W.cell? (a.add (i * 1)) = some (.int .i64 b) ∧ In64 b := by
      intro i hi
      have h1 := hat i hi
      rw [hce, List.getElem?_eq_getElem (by omega), Option.bind_eq_some_iff] at h1
      obtain ⟨cs, h2, h3⟩ := h1
      obtain ⟨u, rfl, hu⟩ := cells_one h2
      obtain ⟨b, e, _, hb⟩ := DataW.trod_int Tryd.underlying3 h3
      injection e with e _
      subst e
      exact ⟨b, hu, law_i64 hb⟩
    by_cases h0 : 0 < len
    · obtain ⟨_, hu0, _⟩ := each 0 h0
      obtain ⟨b, off, spot⟩ := a
      have hspot : spot = none := by simpa [Addr.add] using World.cell?_spot hu0
      subst hspot
      have hblt : b < W.heap.size := World.block_lt_of_cell? _ _ (by simpa [Addr.add] using hu0)
      have each' : ∀ i, i < len → ∃ x, W.cell? ⟨b, off + i, none⟩ = some (.int .i64 x) ∧ In64 x := fun i hi => by
        obtain ⟨x, h1, h2⟩ := each i hi
        rw [addr_add, Nat.mul_one] at h1
        exact ⟨x, h1, h2⟩
      refine ⟨_, _, _, (List.range len).map fun i => if h : i < len then Classical.choose (each' i h) else 0, rfl, ⟨by simp, hl, hm, fun _ => ⟨b, off, rfl, hblt, fun j u hu => ?_⟩⟩, fun x hx => ?_⟩
      · have hj : j < len := by
          have := (List.getElem?_eq_some_iff.1 hu).1
          simpa using this
        have hc := (Classical.choose_spec (each' j hj)).1
        rw [hc]
        simp [hj, iV] at hu
        rw [← hu]
      · obtain ⟨i, hi, rfl⟩ := List.mem_map.1 hx
        have hi' : i < len := by simpa using hi
        rw [dif_pos hi']
        exact (Classical.choose_spec (each' i hi')).2
    · obtain rfl : len = 0 := by omega
      exact ⟨_, _, _, [], rfl, ⟨rfl, hl, hm, fun h => by omega⟩, by simp⟩
theorem pow_laid : Rows.laid_internal_strconv_uint64pow10 (H := Unit) = Lib.tabData .u64 Lib.pow10Tab := by kernel_rfl
theorem it_of_list {rest : List (String × DataW Unit)} {W : World} (h : laidMet Tryd.prog (("internal/strconv.uint64pow10", Rows.laid_internal_strconv_uint64pow10) :: rest) W) : ItAt W := by
  rw [pow_laid] at h
  exact Lib.tabIs_of_head (t := 160) (e := 93) (n := 20) pow10_named (by kernel_rfl) Tryd.underlying160 Tryd.underlying93 (by kernel_rfl) (by kernel_rfl) h
theorem it_of_laid {W : World} (h : laidMetH Tryd.prog laid3 W) : ItAt W := by
  rw [MakeChecks.laidMetH_plain _ _ _ (by kernel_rfl)] at h
  exact it_of_list h.tail.tail
end Go.Proofs.YtkckncggiicciaaDoor
