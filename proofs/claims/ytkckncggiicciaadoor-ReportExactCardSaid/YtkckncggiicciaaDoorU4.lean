/-
  Joined texts, part 4: the lemmas and walks that the row stands on.
-/
import Derived.Test.YtkckncggiicciaaDoorRows
import Derived.Test.YtkckncggiicciaaDoorU1
import Derived.ProofKit
import Derived.OpenShut
import Derived.Laws.FloatArith
import Derived.LaidMore
import Derived.Stop.Joined
import Derived.Stop.LaidErr
import Derived.Lib.LaidTab
import Derived.Test.YtkckncggiicciaaDoorU2
import Derived.Test.YtkckncggiicciaaDoorU3
import Derived.SizedLaws
/-
  From a law's walk to its row: what was there reads as it did. And: how arguments come in.
-/
namespace Go.Proofs.YtkckncggiicciaaDoor
open Go.RowKit Go.ChangeShapes Go.WideShapes Go.ChangeAt
set_option maxRecDepth 100000
theorem Tryd.ownKnob : ownKnob Tryd.prog.godebug = none := by kernel_rfl
theorem Tryd.laidOut : laidOutB Tryd.prog = true := by kernel_rfl
theorem law_args {H : Type} {enc : TypeId × Value → H} {P : Program} (hl : laidOutB P = true) {W W' : World} (hb : Below W.heap.size W W') :
    ∀ {ts : List TypeId} {vs : List Value} {ds : List (DataW H)} {ps : List MemPlace}, (∀ t ∈ ts, P.readableRec t = true ∧ t < P.types.size) →
      DataW.TrodAll enc P W 0 (fun _ => true) true ts vs ds ps → (∀ x ∈ ps, x.block < W.heap.size) → DataW.TrodAll enc P W' 0 (fun b => decide (b < W.heap.size)) true ts vs ds ps
  | [], vs, ds, ps, _, h, _ => by
    obtain ⟨rfl, rfl, rfl⟩ := trodAll_nil h
    exact trodAll_mk0
  | t :: ts, vs, ds, ps, ht, h, hlt => by
    obtain ⟨v, vs', d, ds', p, q, rfl, rfl, rfl, h0, hs⟩ := trodAll_cons h
    exact trodAll_cons_mk (Below.trod hl (ht t (by simp)).1 (ht t (by simp)).2 h0 hb (fun x hx => hlt x (by simp [hx])))
      (law_args hl hb (fun x hx => ht x (by simp [hx])) hs (fun x hx => hlt x (by simp [hx])))
/-- A LAW's ROW's LAST STEP: it has returned true, and nothing that was there has turned. -/
theorem law_post {H : Type} {enc : TypeId × Value → H} {f : Func} {s : ChangeSpec} {W W' : World} {args : Array Value} {ds gs : List (DataW H)} {before : List MemPlace} (tb : TypeId)
    (hres : f.resultTypes = #[tb]) (hbool : Tryd.prog.underlying tb = some .bool) (hvars : s.vars = []) (hts : f.params.toList.all (fun t => Tryd.prog.readableRec t && decide (t < Tryd.prog.types.size)) = true)
    (hW : DataW.Whole enc Tryd.prog f.params.toList s.vars false W args.toList ds gs before)
    (hfn : s.fn H (ds ++ gs) = { results := [.lit (.bool true)], args := ds }) (hb : Below W.heap.size W W') :
    s.post enc Tryd.prog f false true false false W args (.bool true) W' := by
  have hlt : ∀ p ∈ before, p.block < W.heap.size := fun p hp => hW.lt p hp
  have hW0 := hW
  obtain ⟨p, q, hA, hV, rfl, _, _⟩ := hW
  rw [hvars] at hV
  obtain ⟨rfl, rfl⟩ := trodVars_none hV
  have hts' : ∀ t ∈ f.params.toList, Tryd.prog.readableRec t = true ∧ t < Tryd.prog.types.size := fun t ht => by
    have := (List.all_eq_true.1 hts) t ht
    simpa using this
  refine ⟨ds, [], p ++ [], [], p, [], hW0, ?_, ?_, ?_, hb.frame _ |> World.keptBut_mono (fun _ h => h), fun h => by cases h⟩
  · rw [hfn, hres]
    exact trodAll_mk1 (shut_bool hbool true)
  · rw [hfn]
    exact law_args Tryd.laidOut hb hts' hA (fun x hx => hlt x (by simp [hx]))
  · rw [hfn, hvars]
    rfl
theorem cells_one {w : World} {base : Nat} {a : Addr} {cs : List Value} (h : w.cells? base a 1 = some cs) : ∃ v, cs = [v] ∧ w.cell? a = some v := by
  unfold World.cells? at h
  split at h
  · have h0 : a.add 0 = a := by simp [Addr.add]
    rw [show List.range 1 = [0] from rfl] at h
    simp only [List.mapM_cons, List.mapM_nil, h0] at h
    cases hc : w.cell? a with
    | none => rw [hc] at h; cases h
    | some v => rw [hc] at h; cases h; exact ⟨v, rfl, rfl⟩
  · cases h
theorem law_i64 {x : Int} (w : (Lit.int .i64 x).wf = true) : -9223372036854775808 ≤ x ∧ x ≤ 9223372036854775807 := by
  simpa [Lit.wf, IntKind.min, IntKind.max, IntKind.signed, IntKind.bits] using w
/-- A float's cell. -/
theorem trod_float {H : Type} {enc : TypeId × Value → H} {W : World} {base : Nat} {spare : Nat → Bool} {held : Bool} {fuel : Nat} {cs : List Value} {x : DataW H × List MemPlace} (h : DataW.trod enc Tryd.prog W base spare held fuel 35 cs = some x) :
    ∃ b, cs = [.float .f64 b] ∧ b < 18446744073709551616 := by
  cases fuel with
  | zero => simp [DataW.trod] at h
  | succ n =>
    simp only [DataW.trod, Tryd.underlying35] at h
    match cs, h with
    | [.float k b], h =>
      cases k
      · simp at h
      · refine ⟨b, rfl, ?_⟩
        by_cases hw : (Lit.float .f64 b).wf = true
        · simpa [Lit.wf] using hw
        · simp [hw] at h
theorem law_float {H : Type} {enc : TypeId × Value → H} {W : World} {base : Nat} {v : Value} {d : DataW H} {ps : List MemPlace} (hv : Value.okWide Tryd.prog W .any base 35 v)
    (h : DataW.Trod enc Tryd.prog W 0 (fun _ => true) true 35 v d ps) : ∃ b, v = .float .f64 b ∧ b < 18446744073709551616 := by
  obtain ⟨b, rfl⟩ := okWide_float Tryd.underlying35 hv
  obtain ⟨fuel, hf⟩ := h
  obtain ⟨b', e, hb⟩ := trod_float hf
  simp [Value.cells] at e
  subst e
  exact ⟨_, rfl, hb⟩
end Go.Proofs.YtkckncggiicciaaDoor
/-
  What the listed variables give the walks; the door's own heap meets the condition.
-/
namespace Go.Proofs.YtkckncggiicciaaDoor
open Go.RowKit Go.ChangeShapes Go.WideShapes Go.ChangeAt
set_option maxRecDepth 100000
def doorSteps : Nat := 62
def laid3 : List (String × DataW Unit) := [("math/bits.deBruijn32tab", Rows.laid_math_bits_deBruijn32tab), ("math/bits.deBruijn64tab", Rows.laid_math_bits_deBruijn64tab), ("internal/strconv.uint64pow10", Rows.laid_internal_strconv_uint64pow10)]
theorem door_met (os : Os) (args : Array Value) : laidMetH Tryd.prog laid3 ((World.doorLaid Tryd.prog doorSteps os).forCall (fun _ _ => 0) ⟨#[], args, []⟩).memory :=
  laidMetH_of_parts3 (fuel := 8) (laidMet_of_run' 8 (by kernel_rfl) (by kernel_rfl)) (by kernel_rfl) (by kernel_rfl)
def deB : List Int := [0, 1, 56, 2, 57, 49, 28, 3, 61, 58, 42, 50, 38, 29, 17, 4, 62, 47, 59, 36, 45, 43, 51, 22, 53, 39, 33, 30, 24, 18, 12, 5, 63, 55, 48, 27, 60, 41, 37, 16, 46, 35, 44, 21, 52, 32, 23, 11, 54, 26, 40, 15, 34, 20, 31, 10, 25, 14, 19, 9, 13, 8, 7, 6]
theorem deB_named : Tryd.prog.globalNamed "math/bits.deBruijn64tab" = some 6 := by kernel_rfl
theorem tz_of_list {rest : List (String × DataW Unit)} {d : DataW Unit} {W : World} (h : laidMet Tryd.prog (("math/bits.deBruijn32tab", d) :: ("math/bits.deBruijn64tab", Lib.tabData .u8 deB) :: rest) W) :
    W.cell? ⟨6, 15, none⟩ = some (.int .u8 4) := by
  have ht : Lib.TabIs Tryd.prog W "math/bits.deBruijn64tab" .u8 deB :=
    Lib.tabIs_of_head (t := 188) (e := 5) (n := 64) deB_named (by kernel_rfl) Tryd.underlying188 Tryd.underlying5 (by kernel_rfl) (by kernel_rfl) h.tail
  exact Lib.TabIs.cell ht deB_named 15 (by decide)
theorem tz_of_laid {W : World} (h : laidMetH Tryd.prog laid3 W) : W.cell? ⟨6, 15, none⟩ = some (.int .u8 4) := by
  rw [MakeChecks.laidMetH_plain _ _ _ (by kernel_rfl)] at h
  exact tz_of_list h
end Go.Proofs.YtkckncggiicciaaDoor
/-
  The walk of ReportLags.
-/
namespace Go.Proofs.YtkckncggiicciaaDoor
open Go.RowKit
set_option maxRecDepth 100000
/-! ### Plain -/
theorem topL_ge (c0 : Int) (cs : List Int) : c0 ≤ topL c0 cs ∧ ∀ c ∈ cs, c ≤ topL c0 cs := by
  rw [← List.reverse_reverse cs]
  induction cs.reverse with
  | nil => exact ⟨Int.le_refl _, fun c h => by simp at h⟩
  | cons x r ih =>
    rw [List.reverse_cons, topL_snoc]
    refine ⟨by have := ih.1; omega, fun c h => ?_⟩
    rw [List.mem_append] at h
    rcases h with h | h
    · have := ih.2 c h; omega
    · simp at h; omega
def minL (M : Int) (l : List Nat) : Int := l.foldl (fun (a : Int) (k : Nat) => min a (k : Int)) M
theorem minL_snoc (M : Int) (l : List Nat) (k : Nat) : minL M (l ++ [k]) = min (minL M l) (k : Int) := by simp [minL]
theorem minL_low_r (M : Int) (h : 0 ≤ M) : ∀ r : List Nat, 0 ≤ minL M r.reverse
  | [] => h
  | x :: r => by
    have := minL_low_r M h r
    rw [List.reverse_cons, minL_snoc]
    omega
theorem minL_mem_r (M : Int) (h : 0 ≤ M) : ∀ r : List Nat, 0 ∈ r → minL M r.reverse = 0
  | [], h0 => by simp at h0
  | x :: r, h0 => by
    have hr := minL_low_r M h r
    rw [List.reverse_cons, minL_snoc]
    rcases List.mem_cons.1 h0 with h1 | h1
    · omega
    · have := minL_mem_r M h r h1
      omega
theorem minL_mem (M : Int) (l : List Nat) (h : 0 ≤ M) (h0 : 0 ∈ l) : minL M l = 0 := by
  have := minL_mem_r M h l.reverse (by simpa using h0)
  rwa [List.reverse_reverse] at this
/-- A replica of a number and a commit, all else nought. -/
def mkR (id commit : Int) : List Value := [.int .i64 id, .int .i64 0, .int .i64 0, .int .i64 0, .int .i64 0, .int .i64 0, .int .i64 0, .int .i64 0, .int .i64 0, .slice none 0 0, .slice none 0 0, .int .i64 commit, .int .i64 0, .int .i64 0, .int .i64 0, .int .i64 0, .int .i64 0, .int .i64 0,
  .int .i64 0, .int .i64 0, .int .i64 0, .int .i64 0, .int .i64 0, .int .i64 0, .int .i64 0, .int .i64 0, .int .i64 0, .int .i64 0, .int .i64 0, .int .i64 0, .int .i64 0, .int .i64 0, .int .i64 0, .int .i64 0, .int .i64 0, .int .i64 0, .int .i64 0, .int .i64 0, .int .i64 0, .slice none 0 0]
theorem mkR_one (id commit : Int) : ∀ v ∈ mkR id commit, v.oneCell' = true := by
  intro v hv
  unfold mkR at hv
  simp only [List.mem_cons, List.not_mem_nil, or_false] at hv
  rcases hv with h | h | h | h | h | h | h | h | h | h | h | h | h | h | h | h | h | h | h | h | h | h | h | h | h | h | h | h | h | h | h | h | h | h | h | h | h | h | h | h <;> rw [h] <;> rfl
theorem mkR_ok (id commit : Int) : RfOk (mkR id commit) id commit := ⟨rfl, mkR_one id commit, rfl, rfl⟩
def idsL (n : Nat) : List Int := (List.range n).map fun (i : Nat) => (i : Int) % 7
theorem idsL_at {n i : Nat} (h : i < n) : (idsL n)[i]? = some ((i : Int) % 7) := by
  unfold idsL
  simp [h]
def raftsL (cs : List Int) (n : Nat) : List (List Value) := (List.range n).map fun (i : Nat) => mkR ((i : Int) % 7) (cs.getD i 0)
theorem raftsL_succ (cs : List Int) (n : Nat) : raftsL cs (n + 1) = raftsL cs n ++ [mkR ((n : Int) % 7) (cs.getD n 0)] := by
  unfold raftsL
  rw [List.range_succ, List.map_append]
  rfl
theorem raftsL_len (cs : List Int) (n : Nat) : (raftsL cs n).length = n := by simp [raftsL]
theorem raftsL_at {cs : List Int} {n i : Nat} {x : List Value} (h : (raftsL cs n)[i]? = some x) : i < n ∧ x = mkR ((i : Int) % 7) (cs.getD i 0) := by
  unfold raftsL at h
  rw [List.getElem?_map] at h
  by_cases hi : i < n
  · rw [List.getElem?_range hi] at h
    simp at h
    exact ⟨hi, h.symm⟩
  · rw [List.getElem?_eq_none (by simpa using hi)] at h
    cases h
/-! ### A row of replicas of the call's own -/
def zeroR : Value := .agg (mkR 0 0).toArray
theorem info_raft : (Tryd.prog.info? 33).map (fun i => (i.zero, i.size, i.bytes)) = some (some zeroR, 40, 368) := by kernel_rfl
def OwnR (w : World) (base : Nat) (v : Value) (xss : List (List Value)) : Prop := w.ownsRow base 33 40 v xss.length xss.flatten
theorem ownR_nil (w : World) (base : Nat) : OwnR w base (.slice none 0 0) [] := ⟨rfl, .inl ⟨rfl, rfl⟩⟩
theorem rd_struct (w : World) (x : List Value) (e : TypeId) : Rd (w.alloc (.cells x.toArray e)) (w.heap.size + 1) x.length (some ⟨w.heap.size, 0, none⟩) 1 1 x := by
  refine ⟨by omega, Nat.le_refl _, by decide, fun _ => ⟨w.heap.size, 0, rfl, by omega, fun j y hy => ?_⟩⟩
  rw [Nat.zero_add, cell_of_row _ _ _ _ _ _ (heap_alloc_new w _)]
  simpa using hy
theorem wpList_appR {w : World} {ops : Array Oper} {rest : List Oper} {o : Oper} {a : Act} {Q : Exit → Act → World → Prop} (hgd : o.guard = none) (s x : Operand)
    (ho : o.op = .call { callee := .builtin .append, args := #[s, x], argTypes := #[23, 23] })
    (base : Nat) (v : Value) (xss : List (List Value)) (hs : a.eval s = v) (hown : OwnR w base v xss)
    (B g : Nat) (r : List Value) (hx : a.eval x = .slice (some ⟨g, 0, none⟩) 1 1) (_hl : r.length = 40) (hr : Rd w B 40 (some ⟨g, 0, none⟩) 1 1 r) (h1 : ∀ u ∈ r, u.oneCell' = true)
    (hlim : xss.length ≤ 100000) (hbase : base ≤ w.heap.size)
    (h : ∀ v' w', OwnR w' base v' (xss ++ [r]) → w.grownBy w' v.ownBlock → wpList Tryd.prog ops Q rest (a.put o.dst v') w') : wpList Tryd.prog ops Q (o :: rest) a w := by
  obtain ⟨i0, hi, hz0, hz1, hz2⟩ := info_parts info_raft
  refine wpList_plain hgd fun _ hK => wp_appAt s x _ ho base 33 i0 zeroR 40 368 Tryd.underlying23 hi hz0 hz1 hz2 rfl (by omega) v xss.length xss.flatten hs hown B _ 1 1 r hx hr h1 (by simp only [maxLen]; omega) (by omega) hbase ?_
  intro v' w' q1 q2 _ _
  refine hK _ _ (h v' w' ?_ q2)
  unfold OwnR
  rw [List.length_append, List.flatten_append, List.flatten_singleton]
  exact q1
end Go.Proofs.YtkckncggiicciaaDoor
/-
  The walk of ReportLags.
-/
namespace Go.Proofs.YtkckncggiicciaaDoor
open Go.RowKit
set_option maxRecDepth 100000
def iV (c : Int) : Value := .int .i64 c
theorem line_app (id lag : Int) : (⟨(lineL id lag).toArray⟩ : ByteArray) = ((⟨#[108, 97, 103, 32]⟩ ++ ⟨(Lib.itoa id).toArray⟩ : ByteArray) ++ ⟨#[32]⟩) ++ ⟨(Lib.itoa lag).toArray⟩ := by
  show _ = ((⟨[108, 97, 103, 32].toArray⟩ ++ ⟨(Lib.itoa id).toArray⟩ : ByteArray) ++ ⟨[32].toArray⟩) ++ ⟨(Lib.itoa lag).toArray⟩
  rw [bytes_app, bytes_app, bytes_app]
  congr 1
  unfold lineL wordsL
  rw [Lib.join_cons]
  simp [Lib.joinTail]
theorem linesL_at {ids : List Int} {ks : List Nat} {j : Nat} {id : Int} {k : Nat} (h1 : ids[j]? = some id) (h2 : ks[j]? = some k) : ((linesL ids ks).map sV)[j]? = some (sV (lineL id (k : Int))) := by
  unfold linesL
  rw [List.getElem?_map, List.getElem?_zipWith, h1, h2]
  rfl
set_option maxHeartbeats 6400000 in
theorem lags_walk (A : Option Addr) (n cap : Nat) (cs : List Int) (W : World) (hy : Rd W W.heap.size 1 A n cap (cs.map iV)) (h64 : ∀ c ∈ cs, In64 c) (hI : ItAt W) :
    Calls Tryd.prog 3 #[.slice A n cap] W fun e w' => e = .returned (.bool true) ∧ Below W.heap.size W w' := by
  have hlen : cs.length = n := by simpa using hy.1
  have hcap : n ≤ cap := hy.2.1
  rcases Nat.eq_zero_or_pos n with rfl | hpos
  · clear hy h64 hI hlen
    go_enter Tryd.func3, Tryd.ntmps3
    go_wp2_with fail
    go_ret
    exact ⟨rfl, Below.refl _ _⟩
  have hz : ((n : Int) == 0) = false := by simp; omega
  rcases Decidable.em (40 < n) with h40 | h40
  · clear hy h64 hI hlen
    go_enter Tryd.func3, Tryd.ntmps3
    go_wp2_with fail
    go_ret
    exact ⟨rfl, Below.refl _ _⟩
  obtain ⟨_, _, _, h4⟩ := hy
  obtain ⟨b, off, rfl, hb, hcell⟩ := h4 hpos
  have HC : Hid (∀ i, i < n → ∃ c, cs[i]? = some c ∧ cs.getD i 0 = c ∧ In64 c ∧ W.cell? ⟨b, off + i, none⟩ = some (.int .i64 c)) := fun i hi => by
    have hi' : i < cs.length := by omega
    refine ⟨cs[i], List.getElem?_eq_getElem hi', by simp [List.getD, hi'], h64 _ (List.getElem_mem hi'), hcell i _ ?_⟩
    rw [List.getElem?_map, List.getElem?_eq_getElem hi']
    rfl
  obtain ⟨c0, hc0, hg0, h640, hw0⟩ := HC.out 0 hpos
  rw [Nat.add_zero] at hw0
  have HI := Lib.hid hI
  have Hlen := Lib.hid hlen
  have H64 := Lib.hid h64
  have Hc0 := Lib.hid hc0
  clear hI hlen hcell h4 h64 hc0 hg0 h640
  go_enter Tryd.func3, Tryd.ntmps3
  go_wp2_with fail
  go_loopg [3, 4, 5] n (fun g s3 s4 s5 wr => ∃ i : Nat, i + g = n ∧ s5 = .int .i64 i ∧ s4 = .int .i64 (topL c0 (cs.take i)) ∧ OwnR wr W.heap.size s3 (raftsL cs i) ∧ (∀ c ∈ cs.take i, 0 ≤ c ∧ c ≤ 549755813888) ∧ Below W.heap.size W wr)
  case atStart => exact ⟨0, by omega, rfl, rfl, ownR_nil _ _, fun c h => by simp at h, Below.refl _ _⟩
  case round =>
    obtain ⟨i, hig, rfl, rfl, ho, hbd, hbr⟩ := hrel
    have Hig := Lib.hid hig
    have Ho := Lib.hid ho
    have Hbd := Lib.hid hbd
    have hin : i ≤ n := by omega
    clear hig ho hbd
    by_cases hlt : i < n
    · obtain ⟨ci, hce, hgd, h64i, hci⟩ := HC.out i hlt
      have hcell : wr.cell? ⟨b, off + i, none⟩ = some (.int .i64 ci) := (hbr.cell (p := ⟨b, off + i, none⟩) hb).trans hci
      have Htk : Hid (cs.take (i + 1) = cs.take i ++ [ci]) := by
        unfold Hid
        rw [List.take_add_one, hce]
        rfl
      have Hrl : Hid (raftsL cs (i + 1) = raftsL cs i ++ [mkR ((i : Int) % 7) ci]) := by
        unfold Hid
        rw [raftsL_succ, hgd]
      obtain ⟨tp, htp⟩ : ∃ tp, topL c0 (cs.take i) = tp := ⟨_, rfl⟩
      have Htp : Hid (topL c0 (cs.take (i + 1)) = max tp ci) := by
        unfold Hid
        rw [Htk.out, topL_snoc, htp]
      rw [htp]
      have Hci := Lib.hid hci
      clear hce hgd h64i hci htp
      rcases Decidable.em (0 ≤ ci ∧ ci ≤ 549755813888) with hb2 | hb2
      · have Hbd2 : Hid (∀ c ∈ cs.take (i + 1), 0 ≤ c ∧ c ≤ 549755813888) := fun c h => by
          rw [Htk.out, List.mem_append] at h
          rcases h with h | h
          · exact Hbd.out c h
          · simp at h; subst h; exact hb2
        obtain ⟨hlo, hhi⟩ := hb2
        go_wp2_with (at_builtin
                     refine wpList_appR rfl (.tmp 39) (.tmp 47) rfl W.heap.size u3 _ rfl (World.ownsRow.alloc Ho.out _) (wr.heap.size + 1) wr.heap.size (mkR ((i : Int) % 7) ci) rfl rfl (rd_struct wr (mkR ((i : Int) % 7) ci) _) (mkR_one _ _) ?c1 ?c2 ?_
                     case c1 => rw [raftsL_len]; omega
                     case c2 => simp; have := hbr.size; omega
                     intro v4 w4 ho4 hg4
                     have hb4 : Below W.heap.size W w4 := (hbr.alloc hbr.size _).grown hg4 (by simp; have := hbr.size; omega) (fun q hq => (World.ownsRow.lt Ho.out q hq).1)
                     have hcell4 : w4.cell? ⟨b, off + i, none⟩ = some (.int .i64 ci) := (hb4.cell (p := ⟨b, off + i, none⟩) hb).trans Hci.out
                     have Ho4 := Lib.hid ho4
                     clear ho4 hg4)
        have Hon : Hid (OwnR w4 W.heap.size v4 (raftsL cs (i + 1))) := by
          unfold Hid
          rw [Hrl.out]
          exact Ho4.out
        go_roundg (gk - 1)
        case rel => exact ⟨i + 1, by have := Hig.out; omega, by go_num, by rw [Htp.out], Hon.out, Hbd2.out, hb4⟩
        case measure => have := Hig.out; omega
      · rcases Decidable.em (ci < 0) with hlo | hlo
        case' inr => have hhi : 549755813888 < ci := by omega
        all_goals
          clear hb2
          go_wp2_with fail
          go_ret
          exact ⟨rfl, hbr⟩
    · obtain rfl : i = n := by omega
      have hall : cs.take i = cs := List.take_of_length_le (by rw [Hlen.out]; exact Nat.le_refl _)
      have hbd := Hbd.out
      rw [hall] at hbd ⊢
      have htm : topL c0 cs ∈ cs := by
        rcases topL_mem c0 cs with h | h
        · rw [h]; exact List.mem_of_getElem? Hc0.out
        · exact h
      have htg := (topL_ge c0 cs).2
      have hhd : cs.headD 0 = c0 := by
        have h := Hc0.out
        cases cs with
        | nil => simp at h
        | cons a r => simp at h ⊢; exact h
      obtain ⟨T, hT⟩ : ∃ T, topL c0 cs = T := ⟨_, rfl⟩
      rw [hT] at htm htg ⊢
      obtain ⟨tN, htN⟩ : ∃ tN : Nat, T = (tN : Int) := ⟨T.toNat, by have := hbd T htm; omega⟩
      subst htN
      have htb := hbd _ htm
      -- the lags
      obtain ⟨ks, hks⟩ : ∃ ks : List Nat, ks = cs.map fun c => ((tN : Int) - c).toNat := ⟨_, rfl⟩
      have hkl : ks.length = i := by rw [hks, List.length_map, Hlen.out]
      have hkat : ∀ (j : Nat) c, cs[j]? = some c → ∃ k : Nat, ks[j]? = some k ∧ (k : Int) = (tN : Int) - c := fun j c hj => by
        refine ⟨((tN : Int) - c).toNat, by rw [hks, List.getElem?_map, hj]; rfl, ?_⟩
        have := htg c (List.mem_of_getElem? hj)
        omega
      have hkle : ∀ k ∈ ks, k ≤ tN := fun k hk => by
        rw [hks] at hk
        obtain ⟨c, hc, rfl⟩ := List.mem_map.1 hk
        have := (hbd c hc).1
        omega
      have hk0 : 0 ∈ ks := by
        rw [hks]
        exact List.mem_map.2 ⟨_, htm, by omega⟩
      have hokc : okC cs = true := by
        unfold okC
        rw [List.all_eq_true]
        intro c hc
        have := hbd c hc
        simp
        omega
      have hmean : meanV (ks.map fi) ≤ fi tN := mean_fi (by omega) (by omega) (by omega) hkle
      have hfi := fi_le (m := tN) (by omega)
      obtain ⟨hn1, hr1⟩ := small_right (x := meanV (ks.map fi)) (by omega)
      obtain ⟨hn2, hr2⟩ := small_right (x := fi tN) hfi
      have hge := cmp_ge (meanV (ks.map fi)) 0
      have hle := cmp_le (meanV (ks.map fi)) (fi tN)
      rw [hn1, hr1, show isNan 0 = false from rfl, rk_zero] at hge
      rw [hn1, hn2, hr1, hr2] at hle
      have hge' : (!false && !false && decide ((0 : Int) ≤ (meanV (ks.map fi) : Int))) = true := by simp
      have hle' : (!false && !false && decide ((meanV (ks.map fi) : Int) ≤ (fi tN : Int))) = true := by simpa using hmean
      rw [hge'] at hge
      rw [hle'] at hle
      have HLG : Hid (∀ A' c', Rd wr wr.heap.size 40 A' i c' (raftsL cs i).flatten → Calls Tryd.prog 7 #[.slice A' i c'] wr fun e w' => (∃ A6 c6, e = .returned (.tuple #[.slice A6 i c6, .float .f64 (meanV (ks.map fi))]) ∧ Rd w' w'.heap.size 1 A6 i c6 ((linesL (idsL i) ks).map sV)) ∧ Below wr.heap.size wr w') := fun A' c' hrd => by
        refine (RLags_any A' i c' (raftsL cs i) (idsL i) cs ks wr hrd (raftsL_len _ _) (by simp [idsL]) Hlen.out hkl ?_ ?_ H64.out ?_ (by omega) (HI.out.below hbr)).mono ?_
        · intro j x hj
          obtain ⟨h1, rfl⟩ := raftsL_at hj
          obtain ⟨cj, q1, q2, _, _⟩ := HC.out j h1
          exact ⟨_, _, idsL_at h1, q1, by rw [q2]; exact mkR_ok _ _⟩
        · intro id hid
          unfold idsL at hid
          obtain ⟨q, _, rfl⟩ := List.mem_map.1 hid
          unfold In64
          omega
        · intro _ j c hj
          rw [hhd, hT]
          exact hkat j c hj
        · intro e w' h
          unfold LagsPost at h
          rw [if_pos hokc] at h
          obtain ⟨⟨v, he, ho⟩, hb'⟩ := h
          obtain ⟨A6, c6, rfl, hr6⟩ := ownS_rd ho (n := i) (by rw [linesL_len _ _ (by rw [hkl]; simp [idsL]), hkl])
          exact ⟨⟨A6, c6, he, hr6⟩, hb'⟩
      have Hmin := Lib.hid (minL_mem 1099511627776 ks (by omega) hk0)
      have Hkat := Lib.hid hkat
      have Hkl := Lib.hid hkl
      have hfe := fi_eq tN
      obtain ⟨mv, hmv⟩ : ∃ mv, meanV (ks.map fi) = mv := ⟨_, rfl⟩
      rw [hmv] at hge hle HLG
      obtain ⟨A', c', rfl, hrd⟩ := Rd.of_own Ho.out
      rw [raftsL_len] at hrd ⊢
      have HLG2 := Lib.hid (HLG.out A' c' hrd)
      have Htg := Lib.hid htg
      have Hbd1 := Lib.hid hbd
      have htb2 : (tN : Int) ≤ 549755813888 := htb.2
      have htb0 : (0 : Int) ≤ (tN : Int) := htb.1
      clear hall hbd htm htg hhd hT htb hks hkl hkat hkle hk0 hokc hmean hfi hn1 hr1 hn2 hr2 hge' hle' hmv hrd HLG Ho Hbd Hig
      go_wp2_with fail
      refine HLG2.out.mono ?_
      rintro e w2 ⟨⟨A6, c6, rfl, hr6⟩, hb2⟩
      have hbw2 := hbr.trans (hb2.mono hbr.size)
      obtain ⟨_, _, _, hr64⟩ := hr6
      obtain ⟨b6, off6, rfl, hb6, hcell6⟩ := hr64 hpos
      have Hcell6 := Lib.hid hcell6
      clear hr64 hcell6 hb2 HLG2
      go_wp2_with fail
      go_loopg [8, 9] i (fun g s8 s9 wr2 => ∃ j : Nat, j + g = i ∧ s9 = .int .i64 j ∧ s8 = .int .i64 (minL 1099511627776 (ks.take j)) ∧ Below w2.heap.size w2 wr2)
      case atStart => exact ⟨0, by omega, rfl, rfl, Below.refl _ _⟩
      case round =>
        obtain ⟨j, hjg, rfl, rfl, hb3⟩ := hrel
        have Hjg := Lib.hid hjg
        have hjn : j ≤ i := by omega
        clear hjg
        by_cases hlt : j < i
        · obtain ⟨cj, hce, _, _, hcj⟩ := HC.out j hlt
          obtain ⟨k, hke, hkv⟩ := Hkat.out j cj hce
          have hline := Hcell6.out j _ (linesL_at (idsL_at hlt) hke)
          have hi7 : In64 ((j : Int) % 7) := by unfold In64; omega
          have hcj64 := H64.out cj (List.mem_of_getElem? hce)
          have hkge := Htg.out cj (List.mem_of_getElem? hce)
          have hcj0 := (Hbd1.out cj (List.mem_of_getElem? hce)).1
          have hkb : (k : Int) ≤ 549755813888 := by omega
          have hk64 : In64 (k : Int) := by
            unfold In64
            omega
          have HS : Hid (∀ w', Below w2.heap.size w2 w' → w'.cell? ⟨b6, off6 + j, none⟩ = some (.string ⟨(lineL ((j : Int) % 7) (k : Int)).toArray⟩) ∧ w'.cell? ⟨b, off + j, none⟩ = some (.int .i64 cj)) := fun w' h =>
            ⟨(h.cell (p := ⟨b6, off6 + j, none⟩) hb6).trans hline, (h.cell (p := ⟨b, off + j, none⟩) (Nat.lt_of_lt_of_le hb hbw2.size)).trans ((hbw2.cell (p := ⟨b, off + j, none⟩) hb).trans hcj)⟩
          have HN1 : Hid (∀ w', Below w2.heap.size w2 w' → Calls Tryd.prog 8 #[.int .i64 ((j : Int) % 7)] w' fun e w'' => e = .returned (.string ⟨(Lib.itoa ((j : Int) % 7)).toArray⟩) ∧ Below w'.heap.size w' w'') := fun w' h => Itoa_any _ w' hi7 (HI.out.below (hbw2.trans (h.mono hbw2.size)))
          have HN2 : Hid (∀ w', Below w2.heap.size w2 w' → Calls Tryd.prog 8 #[.int .i64 (k : Int)] w' fun e w'' => e = .returned (.string ⟨(Lib.itoa (k : Int)).toArray⟩) ∧ Below w'.heap.size w' w'') := fun w' h => Itoa_any _ w' hk64 (HI.out.below (hbw2.trans (h.mono hbw2.size)))
          have hla := line_app ((j : Int) % 7) (k : Int)
          have q1 := Lib.itoa_length_le _ hi7.1 hi7.2
          have q2 := Lib.itoa_length_le _ hk64.1 hk64.2
          obtain ⟨B1, hB1⟩ : ∃ B1, (⟨(Lib.itoa ((j : Int) % 7)).toArray⟩ : ByteArray) = B1 := ⟨_, rfl⟩
          obtain ⟨B2, hB2⟩ : ∃ B2, (⟨(Lib.itoa (k : Int)).toArray⟩ : ByteArray) = B2 := ⟨_, rfl⟩
          obtain ⟨LB, hLB⟩ : ∃ LB, (⟨(lineL ((j : Int) % 7) (k : Int)).toArray⟩ : ByteArray) = LB := ⟨_, rfl⟩
          have z1 : B1.size ≤ 21 := by rw [← hB1]; show (Lib.itoa _).toArray.size ≤ 21; rw [List.size_toArray]; exact q1
          have z2 : B2.size ≤ 21 := by rw [← hB2]; show (Lib.itoa _).toArray.size ≤ 21; rw [List.size_toArray]; exact q2
          rw [hB1] at HN1 hla
          rw [hB2] at HN2 hla
          rw [hLB] at HS hla
          have hq : (LB.toList == ((⟨#[108, 97, 103, 32]⟩ ++ B1 ++ ⟨#[32]⟩ ++ B2 : ByteArray)).toList) = true := by rw [hla]; simp
          have hsub : (tN : Int) - cj = (k : Int) := hkv.symm
          have Hks : Hid (ks.take (j + 1) = ks.take j ++ [k]) := by unfold Hid; rw [List.take_add_one, hke]; rfl
          have hk0 : (0 : Int) ≤ (k : Int) := by omega
          obtain ⟨ml, hml⟩ : ∃ ml, minL 1099511627776 (ks.take j) = ml := ⟨_, rfl⟩
          have Hml : Hid (minL 1099511627776 (ks.take (j + 1)) = min ml (k : Int)) := by
            unfold Hid
            rw [Hks.out, minL_snoc, hml]
          rw [hml]
          obtain ⟨y0, y1⟩ := HS.out _ hb3
          clear hce hcj hke hkv hline hi7 hk64 q1 q2 hB1 hB2 hLB hla hml hcj64 hkge hcj0
          go_wp2_with fail
          have htm : (j : Int).tmod 7 = (j : Int) % 7 := Int.tmod_eq_emod_of_nonneg (by omega)
          have m1 : ¬ 9223372036854775807 < 4 + B1.size := by omega
          have m2 : ¬ 9223372036854775807 < 4 + B1.size + 1 := by omega
          have m3 : ¬ 9223372036854775807 < 4 + B1.size + 1 + B2.size := by omega
          have hwr : IntKind.i64.wrap (k : Int) = (k : Int) := IntWalk.i64_in _ (by omega)
          go_region_held3 (fun w' => w'.cell? ⟨b6, off6 + j, none⟩ = some (.string LB) ∧ w'.cell? ⟨b, off + j, none⟩ = some (.int .i64 cj))
            ((first | assumption | exact HS.out _ (by assumption) | exact HS.out _ (Below.drew (by assumption))))
            ((first
              | (go_at_call 8
                 (with_reducible refine (HN1.out _ (by first | assumption | exact Below.drew (by assumption))).mono ?_)
                 rintro e w6 ⟨rfl, hb6'⟩
                 have hb6q : Below w2.heap.size w2 w6 := Below.trans (by first | assumption | exact Below.drew (by assumption)) (hb6'.mono (Below.size (by first | assumption | exact Below.drew (by assumption)))))
              | (go_at_call 8
                 (with_reducible refine (HN2.out _ (by first | assumption | exact Below.drew (by assumption))).mono ?_)
                 rintro e w7 ⟨rfl, hb7'⟩
                 have hb7q : Below w2.heap.size w2 w7 := Below.trans (by first | assumption | exact Below.drew (by assumption)) (hb7'.mono (Below.size (by first | assumption | exact Below.drew (by assumption)))))))
          all_goals
            obtain ⟨x0, x1⟩ := HS.out _ hb7q
            clear y0 y1 htm hwr m1 m2 m3
            go_wp2_with fail
            go_roundg (gk - 1)
          all_goals first
            | exact ⟨j + 1, by have := Hjg.out; omega, by go_num, by rw [Hml.out], hb7q⟩
            | (have := Hjg.out; omega)
        · obtain rfl : j = i := by omega
          have hmin : minL 1099511627776 (ks.take j) = 0 := by
            rw [List.take_of_length_le (by rw [Hkl.out]; exact Nat.le_refl _)]
            exact Hmin.out
          rw [hmin]
          have hbf := hbw2.trans (hb3.mono hbw2.size)
          have HWK : Hid (∀ w', Below W.heap.size W w' → Calls Tryd.prog 9 #[] w' fun e w'' => e = .returned (.bool true) ∧ Below w'.heap.size w' w'') := fun w' h => rwakes_any w' (HI.out.below h)
          clear hmin
          go_wp2_with (refine (HWK.out _ hbf).mono ?_; rintro e w9 ⟨rfl, hb9⟩)
          go_ret
          exact ⟨rfl, hbf.trans (hb9.mono hbf.size)⟩
end Go.Proofs.YtkckncggiicciaaDoor
/-
  A slice of whole numbers that came in; the powers of ten, where they lie.
-/
namespace Go.Proofs.YtkckncggiicciaaDoor
open Go.RowKit Go.ChangeShapes Go.WideShapes Go.ChangeAt
set_option maxRecDepth 100000
theorem law_ints {H : Type} {enc : TypeId × Value → H} {W : World} {base : Nat} {v : Value} {d : DataW H} {ps : List MemPlace} (hv : Value.okWide Tryd.prog W .any base 22 v)
    (h : DataW.Trod enc Tryd.prog W 0 (fun _ => true) true 22 v d ps) : ∃ A n cap, ∃ l : List Int, v = .slice A n cap ∧ Rd W W.heap.size 1 A n cap (l.map iV) ∧ ∀ x ∈ l, In64 x := by
  obtain ⟨a0, len, cap, rfl⟩ := okWide_slice Tryd.underlying22 hv
  obtain ⟨fuel, hf⟩ := h
  rcases DataW.trod_slice Tryd.underlying22 hf with ⟨hcs, _⟩ | ⟨a, len', cap', elems, rest, fl, _, hcs, _, _, hl, hm, hel, hat, _, _⟩
  · simp [Value.cells] at hcs
    obtain ⟨rfl, rfl, rfl⟩ := hcs
    exact ⟨none, 0, 0, [], rfl, Rd.nil _ _ _, by simp⟩
  · simp [Value.cells] at hcs
    obtain ⟨rfl, rfl, rfl⟩ := hcs
    have hce : Tryd.prog.cellsOf 3 = 1 := by kernel_rfl
    have each : ∀ i, i < len → ∃ b, W.cell? (a.add (i * 1)) = some (.int .i64 b) ∧ In64 b := by
      intro i hi
      have h1 := hat i hi
      rw [hce, List.getElem?_eq_getElem (by omega), Option.bind_eq_some_iff] at h1
      obtain ⟨cs, h2, h3⟩ := h1
      obtain ⟨u, rfl, hu⟩ := cells_one h2
      obtain ⟨b, e, _, hb⟩ := DataW.trod_int Tryd.underlying3 h3
      injection e with e _
      subst e
      exact ⟨b, hu, law_i64 hb⟩
    by_cases h0 : 0 < len
    · obtain ⟨_, hu0, _⟩ := each 0 h0
      obtain ⟨b, off, spot⟩ := a
      have hspot : spot = none := by simpa [Addr.add] using World.cell?_spot hu0
      subst hspot
      have hblt : b < W.heap.size := World.block_lt_of_cell? _ _ (by simpa [Addr.add] using hu0)
      have each' : ∀ i, i < len → ∃ x, W.cell? ⟨b, off + i, none⟩ = some (.int .i64 x) ∧ In64 x := fun i hi => by
        obtain ⟨x, h1, h2⟩ := each i hi
        rw [addr_add, Nat.mul_one] at h1
        exact ⟨x, h1, h2⟩
      refine ⟨_, _, _, (List.range len).map fun i => if h : i < len then Classical.choose (each' i h) else 0, rfl, ⟨by simp, hl, hm, fun _ => ⟨b, off, rfl, hblt, fun j u hu => ?_⟩⟩, fun x hx => ?_⟩
      · have hj : j < len := by
          have := (List.getElem?_eq_some_iff.1 hu).1
          simpa using this
        have hc := (Classical.choose_spec (each' j hj)).1
        rw [hc]
        simp [hj, iV] at hu
        rw [← hu]
      · obtain ⟨i, hi, rfl⟩ := List.mem_map.1 hx
        have hi' : i < len := by simpa using hi
        rw [dif_pos hi']
        exact (Classical.choose_spec (each' i hi')).2
    · obtain rfl : len = 0 := by omega
      exact ⟨_, _, _, [], rfl, ⟨rfl, hl, hm, fun h => by omega⟩, by simp⟩
theorem pow_laid : Rows.laid_internal_strconv_uint64pow10 (H := Unit) = Lib.tabData .u64 Lib.pow10Tab := by kernel_rfl
theorem it_of_list {rest : List (String × DataW Unit)} {W : World} (h : laidMet Tryd.prog (("internal/strconv.uint64pow10", Rows.laid_internal_strconv_uint64pow10) :: rest) W) : ItAt W := by
  rw [pow_laid] at h
  exact Lib.tabIs_of_head (t := 160) (e := 93) (n := 20) pow10_named (by kernel_rfl) Tryd.underlying160 Tryd.underlying93 (by kernel_rfl) (by kernel_rfl) h
theorem it_of_laid {W : World} (h : laidMetH Tryd.prog laid3 W) : ItAt W := by
  rw [MakeChecks.laidMetH_plain _ _ _ (by kernel_rfl)] at h
  exact it_of_list h.tail.tail
end Go.Proofs.YtkckncggiicciaaDoor
/-
  The walk of ReportLogs.
-/
namespace Go.Proofs.YtkckncggiicciaaDoor
open Go.RowKit
set_option maxRecDepth 100000
set_option maxHeartbeats 12800000 in
theorem logs_walk (h : Hd) (S : Option Addr) (sn sc : Nat) (A : Option Addr) (m c : Nat) (es : List En) (v : Va) (W : World) (hy : EnRows W W.heap.size A m c es) (hl : es.length = m) (hin : ∀ e ∈ es, e.In) (hst : ∀ e ∈ es, e.Str)
    (_hbase : In64 h.base) (hvx : v.x < 18446744073709551616) (hvs : v.s.size ≤ maxLen) (hT : TzAt W) (hI : ItAt W) :
    Calls Tryd.prog 5 #[.agg #[.int .i64 h.term, .int .i64 h.vote, .int .i64 h.base, .int .i64 h.bt, .int .i64 h.full, .int .i64 h.wit, .int .i64 h.learn, .int .i64 h.lw, .slice S sn sc, .slice A m c], .agg #[.int .i64 v.k, .float .f64 v.x, .string v.s]] W
      fun e w' => e = .returned (.bool true) ∧ Below W.heap.size W w' := by
  have hcap : m ≤ c := hy.2.1
  obtain ⟨W2, hW2⟩ : ∃ W2, (W.alloc (.cells #[.int .i64 h.term, .int .i64 h.vote, .int .i64 h.base, .int .i64 h.bt, .int .i64 h.full, .int .i64 h.wit, .int .i64 h.learn, .int .i64 h.lw, .slice S sn sc, .slice A m c] 29)).alloc (.cells #[.int .i64 v.k, .float .f64 v.x, .string v.s] 56) = W2 := ⟨_, rfl⟩
  have hb2 : Below W.heap.size W W2 := by rw [← hW2]; exact two_below _ _ _
  have hz2 : W2.heap.size = W.heap.size + 2 := by rw [← hW2]; simp
  have hr0 : W2.heap[W.heap.size]? = some (.cells #[.int .i64 h.term, .int .i64 h.vote, .int .i64 h.base, .int .i64 h.bt, .int .i64 h.full, .int .i64 h.wit, .int .i64 h.learn, .int .i64 h.lw, .slice S sn sc, .slice A m c] 29 (0, 0)) := by
    rw [← hW2, Below.heap_alloc _ _ _ (by simp)]
    exact heap_alloc_new W _
  have hr1 : W2.heap[W.heap.size + 1]? = some (.cells #[.int .i64 v.k, .float .f64 v.x, .string v.s] 56 (0, 0)) := by
    rw [← hW2]
    exact heap_alloc2_new W _ _
  have HR : Hid (∀ w', Below W2.heap.size W2 w' → w'.heap[W.heap.size]? = some (.cells #[.int .i64 h.term, .int .i64 h.vote, .int .i64 h.base, .int .i64 h.bt, .int .i64 h.full, .int .i64 h.wit, .int .i64 h.learn, .int .i64 h.lw, .slice S sn sc, .slice A m c] 29 (0, 0))) := fun w' hb => (hb.block _ (by omega)).trans hr0
  have Hrow : Hid (∀ w', Below W2.heap.size W2 w' → w'.cell? ⟨W.heap.size, 2, none⟩ = some (.int .i64 h.base) ∧ w'.cell? ⟨W.heap.size, 9, none⟩ = some (.slice A m c) ∧ w'.cell? ⟨W.heap.size + 1, 0, none⟩ = some (.int .i64 v.k) ∧ w'.cell? ⟨W.heap.size + 1, 1, none⟩ = some (.float .f64 v.x) ∧ w'.cell? ⟨W.heap.size + 1, 2, none⟩ = some (.string v.s)) := fun w' hb => by
    have q0 := (hb.block W.heap.size (by omega)).trans hr0
    have q1 := (hb.block (W.heap.size + 1) (by omega)).trans hr1
    exact ⟨cell_of_row _ _ _ _ _ _ q0, cell_of_row _ _ _ _ _ _ q0, cell_of_row _ _ _ _ _ _ q1, cell_of_row _ _ _ _ _ _ q1, cell_of_row _ _ _ _ _ _ q1⟩
  have Hup : Hid (∀ w', Below W2.heap.size W2 w' → Below W.heap.size W w') := fun w' hb => hb2.trans (hb.mono (by omega))
  have HY : Hid (∀ w', Below W2.heap.size W2 w' → EnRows w' w'.heap.size A m c es) := fun w' hb => (Rd.below hy (Hup.out w' hb) (Nat.le_refl _)).mono (Hup.out w' hb).size
  have HHv : Hid (∀ w', Below W2.heap.size W2 w' → Calls Tryd.prog 23 #[.agg #[.int .i64 h.term, .int .i64 h.vote, .int .i64 h.base, .int .i64 h.bt, .int .i64 h.full, .int .i64 h.wit, .int .i64 h.learn, .int .i64 h.lw, .slice S sn sc, .slice A m c]] w' (HvPost m w')) := fun w' hb =>
    Heavy_any (h.cells S sn sc A m c) h.base h.bt A m c S sn sc es w' (h.at S sn sc A m c) (HY.out w' hb) hl hst
  have HLg : Hid (m ≤ 1000 → ∀ w', Below W2.heap.size W2 w' → Calls Tryd.prog 16 #[.agg (h.raft S sn sc A m c).toArray] w' (RlogPost h.base es w')) := fun hm w' hb =>
    RLog_any (h.raft S sn sc A m c) 0 h.term h.base h.bt 0 0 0 A m c es w' (h.raft_at S sn sc A m c) (HY.out w' hb) hl hm hin (hI.below (Hup.out w' hb))
  have HWK : Hid (∀ w', Below W2.heap.size W2 w' → Calls Tryd.prog 9 #[] w' fun e w'' => e = .returned (.bool true) ∧ Below w'.heap.size w' w'') := fun w' hb => rwakes_any w' (hI.below (Hup.out w' hb))
  have HW2 := Lib.hid hW2
  have hbq : Below W2.heap.size W2 W2 := Below.refl _ _
  have hvs' := hvs
  unfold maxLen at hvs'
  have Hfin : Hid (∀ w', Below W2.heap.size W2 w' → (Ending.returned (Value.bool true)) = .returned (.bool true) ∧ Below W.heap.size W w') := fun w' hb => ⟨rfl, Hup.out w' hb⟩
  clear hW2 hr0 hr1
  have Hl := Lib.hid hl
  have HIn := Lib.hid hin
  have HT := Lib.hid hT
  have HI := Lib.hid hI
  clear hy hl hin hst hT hI
  go_enter Tryd.func5, Tryd.ntmps5
  go_wp2_with fail
  rw [HW2.out]
  refine (HHv.out _ hbq).mono ?_
  rintro e w3 ⟨⟨hv, rfl, hm⟩, hb3⟩
  have hbq3 := bstep hbq hb3
  have Hm := Lib.hid hm
  obtain ⟨y0, y1, y2, y3, y4⟩ := Hrow.out _ hbq3
  clear hb3 hm hbq
  cases hv
  case' true =>
    go_wp2_with fail
    go_ret
    exact ⟨rfl, Hup.out _ hbq3⟩
  rcases Decidable.em (2000 < v.s.size) with hbig | hbig
  · go_wp2_with fail
    go_ret
    exact ⟨rfl, Hup.out _ hbq3⟩
  have hm2 : m ≤ 200 := Hm.out rfl
  clear Hm
  go_wp2_with (refine wpList_load_row rfl 29 (.tmp 2) rfl W.heap.size rfl 29 _ (0, 0) _ (HR.out _ hbq3) Tryd.underlying29 rfl size10 ?_)
  refine (HLg.out (by omega) _ hbq3).mono ?_
  intro e w4 hpost
  unfold RlogPost at hpost
  obtain ⟨hpost, hb4⟩ := hpost
  have hbq4 := bstep hbq3 hb4
  obtain ⟨z0, z1, z2, z3, z4⟩ := Hrow.out _ hbq4
  rcases Decidable.em (0 ≤ h.base ∧ h.base ≤ 1099511627776) with hinb | hinb
  case' inr =>
    have hlb : logB h.base = false := by unfold logB; simp; omega
    rw [if_neg (by rw [hlb]; decide)] at hpost
    subst hpost
    clear hlb y0 y1 y2 y3 y4 HLg HHv HY hb4
    rcases Decidable.em (h.base < 0) with hn | hn
    case' inr => have hg : 1099511627776 < h.base := by omega
    all_goals
      clear hinb
      go_wp2_with (refine (HWK.out _ hbq4).mono ?_; rintro e w9 ⟨rfl, hb9⟩)
      go_ret
      exact ⟨rfl, Hup.out _ (bstep hbq4 hb9)⟩
  have hlb : logB h.base = true := by unfold logB; simp; omega
  rw [if_pos hlb] at hpost
  obtain ⟨vv, rfl, ho⟩ := hpost
  obtain ⟨A4, c4, rfl, hr4⟩ := ownS_rd ho (n := m) (by rw [logL_len, Hl.out])
  have HYe := Lib.hid (HY.out _ hbq4)
  have HA : Hid (∀ i, i < m → ∃ b4 off4 e b off, A4 = some ⟨b4, off4, none⟩ ∧ b4 < w4.heap.size ∧ w4.cell? ⟨b4, off4 + i, none⟩ = some (.string ⟨(entL (h.base + i + 1) e).toArray⟩) ∧ A = some ⟨b, off, none⟩ ∧ b < w4.heap.size ∧ w4.cell? ⟨b, off + i * 16, none⟩ = some (.int .i64 e.term) ∧ e.In) := fun i hi => by
    obtain ⟨b, off, e, q1, q2, q3, q4, q5, q6⟩ := en_row HYe.out Hl.out hi
    obtain ⟨_, _, _, hrr⟩ := hr4
    obtain ⟨b4, off4, rfl, hb4', hcell⟩ := hrr (by omega)
    refine ⟨b4, off4, e, b, off, rfl, hb4', ?_, q1, q2, ?_, HIn.out e q5⟩
    · refine hcell i _ ?_
      unfold logL
      rw [List.getElem?_map, List.getElem?_map, List.getElem?_range (by rw [Hl.out]; exact hi)]
      show some (sV (entL (h.base + i + 1) (es.getD i e0))) = _
      rw [q4]
      rfl
    · have := q6 0 _ (show e.cells[0]? = some (.int .i64 e.term) from rfl)
      rwa [Nat.add_zero] at this
  obtain ⟨hi0, hi1⟩ := hinb
  have Hr4 := Lib.hid hr4.1
  have hmc : m ≤ c4 := hr4.2.1
  clear hlb ho hr4 y0 y1 y2 y3 y4 HLg HHv HY hb4 HYe HR
  go_wp2_with fail
  go_loopg [6, 7] m (fun g s6 s7 wr => ∃ i : Nat, i + g = m ∧ s6 = .int .i64 i ∧ Below w4.heap.size w4 wr)
  case atStart => exact ⟨0, by omega, rfl, Below.refl _ _⟩
  case round =>
    obtain ⟨i, hig, rfl, hb5⟩ := hrel
    have Hig := Lib.hid hig
    have him : i ≤ m := by omega
    clear hig z0 z1 z2 z3 z4
    have hbq5 := bstep hbq4 hb5
    by_cases hlt : i < m
    · obtain ⟨b4, off4, e, b, off, rfl, hb4, hc4, rfl, hbb, hce, hei⟩ := HA.out i hlt
      have hidx : In64 (h.base + (i : Int) + 1) := by unfold In64; omega
      have hll := entL_len hidx hei
      obtain ⟨r, hsp⟩ := ent_words (h.base + i + 1) e
      have hrp := cutW_pos r []
      obtain ⟨LB, hLB⟩ : ∃ LB, (⟨(entL (h.base + i + 1) e).toArray⟩ : ByteArray) = LB := ⟨_, rfl⟩
      have hLd : LB.data.toList = entL (h.base + i + 1) e := by rw [← hLB]
      have hLz : LB.size ≤ 4000 := by
        rw [← hLB]
        show (entL _ e).toArray.size ≤ 4000
        rw [List.size_toArray]
        omega
      rw [hLB] at hc4
      have hq1 := (hb5.cell (p := ⟨b4, off4 + i, none⟩) hb4).trans hc4
      have HWD : Hid (∀ w', Calls Tryd.prog 24 #[.string LB] w' (WordsPost LB.data.toList w')) := fun w' => Words_any LB w' hLz
      have hz5 := hb5.size
      have HCE : Hid (∀ w', Below w4.heap.size w4 w' → w'.cell? ⟨b, off + i * 16, none⟩ = some (.int .i64 e.term)) := fun w' hb => (hb.cell (p := ⟨b, off + i * 16, none⟩) hbb).trans hce
      have hterm : In64 e.term := hei.term
      have HI5 : Hid (∀ w', Below W2.heap.size W2 w' → ItAt w') := fun w' hb => HI.out.below (Hup.out w' hb)
      have HN1 : Hid (∀ w', Below W2.heap.size W2 w' → Calls Tryd.prog 8 #[.int .i64 (h.base + (i : Int) + 1)] w' fun e w'' => e = .returned (.string ⟨(Lib.itoa (h.base + (i : Int) + 1)).toArray⟩) ∧ Below w'.heap.size w' w'') := fun w' hb => Itoa_any _ w' hidx (HI5.out _ hb)
      have HN2 : Hid (∀ w', Below W2.heap.size W2 w' → Calls Tryd.prog 8 #[.int .i64 e.term] w' fun e' w'' => e' = .returned (.string ⟨(Lib.itoa e.term).toArray⟩) ∧ Below w'.heap.size w' w'') := fun w' hb => Itoa_any _ w' hterm (HI5.out _ hb)
      obtain ⟨B1, hB1⟩ : ∃ B1, (⟨(Lib.itoa (h.base + (i : Int) + 1)).toArray⟩ : ByteArray) = B1 := ⟨_, rfl⟩
      obtain ⟨B2, hB2⟩ : ∃ B2, (⟨(Lib.itoa e.term).toArray⟩ : ByteArray) = B2 := ⟨_, rfl⟩
      rw [hB1] at HN1
      rw [hB2] at HN2
      obtain ⟨tm, htm⟩ : ∃ tm, e.term = tm := ⟨_, rfl⟩
      have HSP : Hid (∀ w' base v, OwnS w' base v (splitL LB.data.toList) → ∃ q b7 off7 c7, v = .slice (some ⟨b7, off7, none⟩) (q + 3) c7 ∧ q + 3 ≤ c7 ∧ b7 < w'.heap.size ∧ w'.cell? ⟨b7, off7, none⟩ = some (.string B1) ∧ w'.cell? ⟨b7, off7 + 1, none⟩ = some (.string B2)) := fun w' base v ho => by
        rw [hLd, hsp] at ho
        obtain ⟨q, hq⟩ : ∃ q, (cutW [] r).length = q + 1 := ⟨(cutW [] r).length - 1, by omega⟩
        obtain ⟨A7, c7, rfl, _, h7, _, hr7⟩ := ownS_rd ho (n := q + 3) (by rw [List.length_cons, List.length_cons, hq])
        obtain ⟨b7, off7, rfl, hb7, hcell⟩ := hr7 (by omega)
        refine ⟨q, b7, off7, c7, rfl, h7, hb7, ?_, ?_⟩
        · have := hcell 0 _ rfl
          rw [Nat.add_zero] at this
          rw [this]
          show some (sV _) = _
          unfold sV
          rw [hB1]
        · have := hcell 1 _ rfl
          rw [this]
          show some (sV _) = _
          unfold sV
          rw [hB2]
      rw [htm] at HCE HN2
      clear hc4 hce hei hll hsp hrp hLB hLd hLz hz5 hterm hB1 hB2 htm HA hbb
      go_wp2_with fail
      refine (HWD.out _).mono ?_
      rintro _ w6 ⟨⟨v6, rfl, ho6⟩, hb6⟩
      obtain ⟨q, b7, off7, c7, rfl, hqc, hb7, hk0, hk1⟩ := HSP.out _ _ _ ho6
      have hb56 : Below w4.heap.size w4 w6 := bstep hb5 hb6
      have hbq6 := bstep hbq5 hb6
      have HS : Hid (∀ w', Below w6.heap.size w6 w' → w'.cell? ⟨b7, off7, none⟩ = some (.string B1) ∧ w'.cell? ⟨b7, off7 + 1, none⟩ = some (.string B2) ∧ w'.cell? ⟨W.heap.size, 2, none⟩ = some (.int .i64 h.base) ∧ w'.cell? ⟨W.heap.size, 9, none⟩ = some (.slice (some ⟨b, off, none⟩) m c) ∧ w'.cell? ⟨b, off + i * 16, none⟩ = some (.int .i64 tm)) := fun w' hb => by
        obtain ⟨p0, p1, _⟩ := Hrow.out _ (bstep hbq6 hb)
        exact ⟨(hb.cell (p := ⟨b7, off7, none⟩) hb7).trans hk0, (hb.cell (p := ⟨b7, off7 + 1, none⟩) hb7).trans hk1, p0, p1, HCE.out _ (bstep hb56 hb)⟩
      have hbz : Below w6.heap.size w6 w6 := Below.refl _ _
      have HN1' : Hid (∀ w', Below w6.heap.size w6 w' → Calls Tryd.prog 8 #[.int .i64 (h.base + (i : Int) + 1)] w' fun e w'' => e = .returned (.string B1) ∧ Below w'.heap.size w' w'') := fun w' hb => HN1.out _ (bstep hbq6 hb)
      have HN2' : Hid (∀ w', Below w6.heap.size w6 w' → Calls Tryd.prog 8 #[.int .i64 tm] w' fun e w'' => e = .returned (.string B2) ∧ Below w'.heap.size w' w'') := fun w' hb => HN2.out _ (bstep hbq6 hb)
      obtain ⟨y0, y1, y2, y3, y4⟩ := HS.out _ hbz
      clear hq1 ho6 hk0 hk1 HN1 HN2 HSP HWD HCE
      have m0 : decide (((q + 3 : Nat) : Int) < 3) = false := by simp; omega
      have m1 : ¬ ((q : Int) + 3 < 3) := by omega
      have i0 : (0 : Int) < (q : Int) + 3 := by omega
      have i1 : (1 : Int) < (q : Int) + 3 := by omega
      have j0 : 0 < q + 3 := by omega
      have j1 : 1 < q + 3 := by omega
      have wr1 : IntKind.i64.wrap (h.base + (i : Int)) = h.base + (i : Int) := IntWalk.i64_in _ (by omega)
      have wr2 : IntKind.i64.wrap (h.base + (i : Int) + 1) = h.base + (i : Int) + 1 := IntWalk.i64_in _ (by omega)
      have e1 : (B1.toList == B1.toList) = true := by simp
      have e2 : (B2.toList == B2.toList) = true := by simp
      go_wp2_with fail
      go_region_held3 (fun w' => w'.cell? ⟨b7, off7, none⟩ = some (.string B1) ∧ w'.cell? ⟨b7, off7 + 1, none⟩ = some (.string B2) ∧ w'.cell? ⟨W.heap.size, 2, none⟩ = some (.int .i64 h.base) ∧ w'.cell? ⟨W.heap.size, 9, none⟩ = some (.slice (some ⟨b, off, none⟩) m c) ∧ w'.cell? ⟨b, off + i * 16, none⟩ = some (.int .i64 tm))
        ((first | assumption | exact HS.out _ (by assumption) | exact HS.out _ (Below.drew (by assumption))))
        ((first
          | (go_at_call 8
             (with_reducible refine (HN1'.out _ (by first | assumption | exact Below.drew (by assumption))).mono ?_)
             rintro e w7 ⟨rfl, hb7'⟩
             have hb7q : Below w6.heap.size w6 w7 := Below.trans (by first | assumption | exact Below.drew (by assumption)) (hb7'.mono (Below.size (by first | assumption | exact Below.drew (by assumption)))))
          | (go_at_call 8
             (with_reducible refine (HN2'.out _ (by first | assumption | exact Below.drew (by assumption))).mono ?_)
             rintro e w8 ⟨rfl, hb8'⟩
             have hb8q : Below w6.heap.size w6 w8 := Below.trans (by first | assumption | exact Below.drew (by assumption)) (hb8'.mono (Below.size (by first | assumption | exact Below.drew (by assumption)))))))
      all_goals
        clear y0 y1 y2 y3 y4 m0 m1 i0 i1 j0 j1 wr1 wr2 e1 e2
        go_wp2_with fail
        go_roundg (gk - 1)
      all_goals first
        | exact ⟨i + 1, by have := Hig.out; omega, by go_num, bstep hb56 (by assumption)⟩
        | (have := Hig.out; omega)
    · obtain rfl : i = m := by omega
      obtain ⟨z0, z1, z2, z3, z4⟩ := Hrow.out _ hbq5
      have HRP : Hid (∀ w', Below W2.heap.size W2 w' → Calls Tryd.prog 21 #[.agg #[.slice (some ⟨w'.heap.size, 0, none⟩) 1 1, .slice none 0 0]] (w'.alloc (.cells #[.string ⟨#[97]⟩, .int .i64 v.k, .float .f64 v.x, .string v.s] 66)) fun e w'' => (∃ b7 off7 c7, e = .returned (.slice (some ⟨b7, off7, none⟩) 1 c7) ∧ 1 ≤ c7 ∧ b7 < w''.heap.size ∧ w''.cell? ⟨b7, off7, none⟩ = some (.string ⟨(pairL (⟨#[97]⟩, v)).toArray⟩)) ∧ Below w'.heap.size w' w'') := fun w' hb => by
        have hzp : (w'.alloc (.cells (prC (⟨#[97]⟩, v)).toArray 66)).heap.size = w'.heap.size + 1 := by simp
        have hpr : PrRows (w'.alloc (.cells (prC (⟨#[97]⟩, v)).toArray 66)) (w'.alloc (.cells (prC (⟨#[97]⟩, v)).toArray 66)).heap.size (some ⟨w'.heap.size, 0, none⟩) 1 1 [(⟨#[97]⟩, v)] := by
          rw [hzp]
          exact rd_struct w' (prC (⟨#[97]⟩, v)) _
        refine (RPairs_any (some ⟨w'.heap.size, 0, none⟩) 1 1 none 0 0 [(⟨#[97]⟩, v)] _ hpr rfl (by decide) ?_ ?_).mono ?_
        · intro p hp
          have : p = (⟨#[97]⟩, v) := by simpa using hp
          subst this
          exact ⟨show (1 : Nat) ≤ 2000 by decide, hvx, hvs⟩
        · exact HT.out.below ((Hup.out w' hb).trans ((alloc_below w' _).mono (Hup.out w' hb).size))
        · rintro e w'' ⟨⟨vv, rfl, ho⟩, hb'⟩
          obtain ⟨A7, c7, rfl, _, h7, _, hr7⟩ := ownS_rd ho (n := 1) rfl
          obtain ⟨b7, off7, rfl, hb7, hcell⟩ := hr7 (by decide)
          have hc0 := hcell 0 _ rfl
          rw [Nat.add_zero] at hc0
          exact ⟨⟨b7, off7, c7, rfl, h7, hb7, hc0⟩, (alloc_below w' _).trans (hb'.mono (by simp))⟩
      have HCK : Hid (∀ w', Calls Tryd.prog 25 #[.agg #[.int .i64 v.k, .float .f64 v.x, .string v.s]] w' fun e w'' => e = .returned (.int .i64 (chkVa v)) ∧ Below w'.heap.size w' w'') := fun w' => RCheck_any v w' hvx hvs
      have hpq := pair_q v
      obtain ⟨PB, hPB⟩ : ∃ PB, (⟨(pairL (⟨#[97]⟩, v)).toArray⟩ : ByteArray) = PB := ⟨_, rfl⟩
      rw [hPB] at HRP hpq
      obtain ⟨ck, hck⟩ : ∃ ck, chkVa v = ck := ⟨_, rfl⟩
      rw [hck] at HCK hpq
      clear HA hlt hPB hck hbig
      go_wp2_with fail
      refine (HRP.out _ hbq5).mono ?_
      rintro _ w6 ⟨⟨b7, off7, c7, rfl, h7c, hb7, hk0⟩, hb6⟩
      have hbq6 := bstep hbq5 hb6
      have HS : Hid (∀ w', Below w6.heap.size w6 w' → w'.cell? ⟨b7, off7, none⟩ = some (.string PB) ∧ w'.cell? ⟨W.heap.size + 1, 0, none⟩ = some (.int .i64 v.k) ∧ w'.cell? ⟨W.heap.size + 1, 1, none⟩ = some (.float .f64 v.x) ∧ w'.cell? ⟨W.heap.size + 1, 2, none⟩ = some (.string v.s)) := fun w' hb => by
        obtain ⟨_, _, p2, p3, p4⟩ := Hrow.out _ (bstep hbq6 hb)
        exact ⟨(hb.cell (p := ⟨b7, off7, none⟩) hb7).trans hk0, p2, p3, p4⟩
      have hbz : Below w6.heap.size w6 w6 := Below.refl _ _
      have HWK' : Hid (∀ w', Below w6.heap.size w6 w' → Calls Tryd.prog 9 #[] w' fun e w'' => e = .returned (.bool true) ∧ Below w'.heap.size w' w'') := fun w' hb => HWK.out _ (bstep hbq6 hb)
      obtain ⟨y0, y2, y3, y4⟩ := HS.out _ hbz
      clear hk0 HRP HWK z0 z1 z2 z3 z4
      rcases Decidable.em (ck = 0) with hz | hz
      case' inl =>
        subst hz
        have hpq' : (PB.toList == [107, 54, 49, 32, 63]) = false := hpq
      case' inr =>
        have hpq' : (PB.toList == [107, 54, 49, 32, 63]) = true := by rw [hpq]; simpa using hz
      all_goals
        clear hpq
        go_wp2_with fail
        go_region_held3 (fun w' => w'.cell? ⟨b7, off7, none⟩ = some (.string PB) ∧ w'.cell? ⟨W.heap.size + 1, 0, none⟩ = some (.int .i64 v.k) ∧ w'.cell? ⟨W.heap.size + 1, 1, none⟩ = some (.float .f64 v.x) ∧ w'.cell? ⟨W.heap.size + 1, 2, none⟩ = some (.string v.s))
          ((first | assumption | exact HS.out _ (by assumption) | exact HS.out _ (Below.drew (by assumption))))
          ((first
            | (go_at_call 25
               (with_reducible refine (HCK.out _).mono ?_)
               rintro e w7 ⟨rfl, hb7'⟩
               have hb7q : Below w6.heap.size w6 w7 := Below.trans (by first | assumption | exact Below.drew (by assumption)) (hb7'.mono (Below.size (by first | assumption | exact Below.drew (by assumption)))))
            | (go_at_call 9
               (with_reducible refine (HWK'.out _ (by first | assumption | exact Below.drew (by assumption))).mono ?_)
               rintro e w8 ⟨rfl, hb8'⟩
               have hb8q : Below w6.heap.size w6 w8 := Below.trans (by first | assumption | exact Below.drew (by assumption)) (hb8'.mono (Below.size (by first | assumption | exact Below.drew (by assumption)))))))
      all_goals
        go_wp2_with fail
        go_ret
        first
          | exact ⟨rfl, Hup.out _ (bstep hbq6 (by assumption))⟩
          | exact ⟨ret_bool (show (ck != 0) = true by simpa using hz), Hup.out _ (bstep hbq6 (by assumption))⟩
end Go.Proofs.YtkckncggiicciaaDoor
/-
  A log that came in; written by genlawh.py.
-/
namespace Go.Proofs.YtkckncggiicciaaDoor
open Go.RowKit Go.ChangeShapes Go.WideShapes Go.ChangeAt
set_option maxRecDepth 100000
theorem cut_at {α : Type} (cs : List α) {k n m : Nat} (h : k + n = m) : cs.drop k = (cs.drop k).take n ++ cs.drop m := by
  subst h
  rw [← List.drop_drop]
  exact (List.take_append_drop n _).symm
theorem s_int : Tryd.prog.cellsOf 3 = 1 := by kernel_rfl
theorem s_string : Tryd.prog.cellsOf 9 = 1 := by kernel_rfl
theorem s_float64 : Tryd.prog.cellsOf 35 = 1 := by kernel_rfl
theorem s_sl_uint8 : Tryd.prog.cellsOf 26 = 1 := by kernel_rfl
theorem s_sl_api_Entry : Tryd.prog.cellsOf 27 = 1 := by kernel_rfl
theorem s_api_Value : Tryd.prog.cellsOf 56 = 3 := by kernel_rfl
theorem s_api_Conf : Tryd.prog.cellsOf 25 = 4 := by kernel_rfl
theorem s_api_Cmd : Tryd.prog.cellsOf 60 = 8 := by kernel_rfl
theorem s_api_Call : Tryd.prog.cellsOf 62 = 10 := by kernel_rfl
theorem s_api_Entry : Tryd.prog.cellsOf 64 = 16 := by kernel_rfl
theorem s_api_Hard : Tryd.prog.cellsOf 29 = 10 := by kernel_rfl
theorem cells_va {H : Type} {enc : TypeId × Value → H} {W : World} {fuel : Nat} {cs : List Value} {x : DataW H × List MemPlace} (h : DataW.trod enc Tryd.prog W 0 (fun _ => true) true fuel 56 cs = some x) :
    ∃ (k : Int) (x0 : Nat) (s : ByteArray), cs = [.int .i64 k, .float .f64 x0, .string s] ∧ In64 k ∧ x0 < 18446744073709551616 ∧ s.size ≤ maxLen := by
  obtain ⟨xs, n', _, _, hl, hxl, hfs⟩ := DataW.trod_struct Tryd.underlying56 h
  rw [s_api_Value] at hl
  have hxl2 : xs.length = 3 := hxl
  have f0 : DataW.trod enc Tryd.prog W 0 (fun _ => true) true n' 3 ((cs.drop 0).take (Tryd.prog.cellsOf 3)) = xs[0]? := hfs 0 _ rfl
  rw [List.getElem?_eq_getElem (by omega), s_int] at f0
  have f1 : DataW.trod enc Tryd.prog W 0 (fun _ => true) true n' 35 ((cs.drop 1).take (Tryd.prog.cellsOf 35)) = xs[1]? := hfs 1 _ rfl
  rw [List.getElem?_eq_getElem (by omega), s_float64] at f1
  have f2 : DataW.trod enc Tryd.prog W 0 (fun _ => true) true n' 9 ((cs.drop 2).take (Tryd.prog.cellsOf 9)) = xs[2]? := hfs 2 _ rfl
  rw [List.getElem?_eq_getElem (by omega), s_string] at f2
  obtain ⟨k, e0, _, hk⟩ := DataW.trod_int Tryd.underlying3 f0
  obtain ⟨x0, e1, hx0⟩ := trod_float f1
  obtain ⟨s, e2, _, hs⟩ := DataW.trod_string Tryd.underlying9 f2
  refine ⟨k, x0, s, ?_, law_i64 hk, hx0, hs⟩
  show cs.drop 0 = _
  rw [cut_at cs (k := 0) (n := 1) (m := 1) rfl, e0, cut_at cs (k := 1) (n := 1) (m := 2) rfl, e1, cut_at cs (k := 2) (n := 1) (m := 3) rfl, e2, List.drop_eq_nil_of_le (by omega)]
  rfl
theorem cells_conf {H : Type} {enc : TypeId × Value → H} {W : World} {fuel : Nat} {cs : List Value} {x : DataW H × List MemPlace} (h : DataW.trod enc Tryd.prog W 0 (fun _ => true) true fuel 25 cs = some x) :
    ∃ (a : Int) (b : Int) (c : Int) (d : Int), cs = [.int .i64 a, .int .i64 b, .int .i64 c, .int .i64 d] ∧ In64 a ∧ In64 b ∧ In64 c ∧ In64 d := by
  obtain ⟨xs, n', _, _, hl, hxl, hfs⟩ := DataW.trod_struct Tryd.underlying25 h
  rw [s_api_Conf] at hl
  have hxl2 : xs.length = 4 := hxl
  have f0 : DataW.trod enc Tryd.prog W 0 (fun _ => true) true n' 3 ((cs.drop 0).take (Tryd.prog.cellsOf 3)) = xs[0]? := hfs 0 _ rfl
  rw [List.getElem?_eq_getElem (by omega), s_int] at f0
  have f1 : DataW.trod enc Tryd.prog W 0 (fun _ => true) true n' 3 ((cs.drop 1).take (Tryd.prog.cellsOf 3)) = xs[1]? := hfs 1 _ rfl
  rw [List.getElem?_eq_getElem (by omega), s_int] at f1
  have f2 : DataW.trod enc Tryd.prog W 0 (fun _ => true) true n' 3 ((cs.drop 2).take (Tryd.prog.cellsOf 3)) = xs[2]? := hfs 2 _ rfl
  rw [List.getElem?_eq_getElem (by omega), s_int] at f2
  have f3 : DataW.trod enc Tryd.prog W 0 (fun _ => true) true n' 3 ((cs.drop 3).take (Tryd.prog.cellsOf 3)) = xs[3]? := hfs 3 _ rfl
  rw [List.getElem?_eq_getElem (by omega), s_int] at f3
  obtain ⟨a, e0, _, ha⟩ := DataW.trod_int Tryd.underlying3 f0
  obtain ⟨b, e1, _, hb⟩ := DataW.trod_int Tryd.underlying3 f1
  obtain ⟨c, e2, _, hc⟩ := DataW.trod_int Tryd.underlying3 f2
  obtain ⟨d, e3, _, hd⟩ := DataW.trod_int Tryd.underlying3 f3
  refine ⟨a, b, c, d, ?_, law_i64 ha, law_i64 hb, law_i64 hc, law_i64 hd⟩
  show cs.drop 0 = _
  rw [cut_at cs (k := 0) (n := 1) (m := 1) rfl, e0, cut_at cs (k := 1) (n := 1) (m := 2) rfl, e1, cut_at cs (k := 2) (n := 1) (m := 3) rfl, e2, cut_at cs (k := 3) (n := 1) (m := 4) rfl, e3, List.drop_eq_nil_of_le (by omega)]
  rfl
theorem cells_cmd {H : Type} {enc : TypeId × Value → H} {W : World} {fuel : Nat} {cs : List Value} {x : DataW H × List MemPlace} (h : DataW.trod enc Tryd.prog W 0 (fun _ => true) true fuel 60 cs = some x) :
    ∃ (ck : Int) (key : ByteArray) (ok : Int) (ox0 : Nat) (os : ByteArray) (vk : Int) (vx0 : Nat) (vs : ByteArray), cs = [.int .i64 ck, .string key, .int .i64 ok, .float .f64 ox0, .string os, .int .i64 vk, .float .f64 vx0, .string vs] ∧ In64 ck ∧ key.size ≤ maxLen ∧ In64 ok ∧ ox0 < 18446744073709551616 ∧ os.size ≤ maxLen ∧ In64 vk ∧ vx0 < 18446744073709551616 ∧ vs.size ≤ maxLen := by
  obtain ⟨xs, n', _, _, hl, hxl, hfs⟩ := DataW.trod_struct Tryd.underlying60 h
  rw [s_api_Cmd] at hl
  have hxl2 : xs.length = 4 := hxl
  have f0 : DataW.trod enc Tryd.prog W 0 (fun _ => true) true n' 3 ((cs.drop 0).take (Tryd.prog.cellsOf 3)) = xs[0]? := hfs 0 _ rfl
  rw [List.getElem?_eq_getElem (by omega), s_int] at f0
  have f1 : DataW.trod enc Tryd.prog W 0 (fun _ => true) true n' 9 ((cs.drop 1).take (Tryd.prog.cellsOf 9)) = xs[1]? := hfs 1 _ rfl
  rw [List.getElem?_eq_getElem (by omega), s_string] at f1
  have f2 : DataW.trod enc Tryd.prog W 0 (fun _ => true) true n' 56 ((cs.drop 2).take (Tryd.prog.cellsOf 56)) = xs[2]? := hfs 2 _ rfl
  rw [List.getElem?_eq_getElem (by omega), s_api_Value] at f2
  have f3 : DataW.trod enc Tryd.prog W 0 (fun _ => true) true n' 56 ((cs.drop 5).take (Tryd.prog.cellsOf 56)) = xs[3]? := hfs 3 _ rfl
  rw [List.getElem?_eq_getElem (by omega), s_api_Value] at f3
  obtain ⟨ck, e0, _, hck⟩ := DataW.trod_int Tryd.underlying3 f0
  obtain ⟨key, e1, _, hkey⟩ := DataW.trod_string Tryd.underlying9 f1
  obtain ⟨ok, ox0, os, e2, p2_0, p2_1, p2_2⟩ := cells_va f2
  obtain ⟨vk, vx0, vs, e3, p3_0, p3_1, p3_2⟩ := cells_va f3
  refine ⟨ck, key, ok, ox0, os, vk, vx0, vs, ?_, law_i64 hck, hkey, p2_0, p2_1, p2_2, p3_0, p3_1, p3_2⟩
  show cs.drop 0 = _
  rw [cut_at cs (k := 0) (n := 1) (m := 1) rfl, e0, cut_at cs (k := 1) (n := 1) (m := 2) rfl, e1, cut_at cs (k := 2) (n := 3) (m := 5) rfl, e2, cut_at cs (k := 5) (n := 3) (m := 8) rfl, e3, List.drop_eq_nil_of_le (by omega)]
  rfl
theorem cells_call {H : Type} {enc : TypeId × Value → H} {W : World} {fuel : Nat} {cs : List Value} {x : DataW H × List MemPlace} (h : DataW.trod enc Tryd.prog W 0 (fun _ => true) true fuel 62 cs = some x) :
    ∃ (cl : Int) (sq : Int) (mck : Int) (mkey : ByteArray) (mok : Int) (mox0 : Nat) (mos : ByteArray) (mvk : Int) (mvx0 : Nat) (mvs : ByteArray), cs = [.int .i64 cl, .int .i64 sq, .int .i64 mck, .string mkey, .int .i64 mok, .float .f64 mox0, .string mos, .int .i64 mvk, .float .f64 mvx0, .string mvs] ∧ In64 cl ∧ In64 sq ∧ In64 mck ∧ mkey.size ≤ maxLen ∧ In64 mok ∧ mox0 < 18446744073709551616 ∧ mos.size ≤ maxLen ∧ In64 mvk ∧ mvx0 < 18446744073709551616 ∧ mvs.size ≤ maxLen := by
  obtain ⟨xs, n', _, _, hl, hxl, hfs⟩ := DataW.trod_struct Tryd.underlying62 h
  rw [s_api_Call] at hl
  have hxl2 : xs.length = 3 := hxl
  have f0 : DataW.trod enc Tryd.prog W 0 (fun _ => true) true n' 3 ((cs.drop 0).take (Tryd.prog.cellsOf 3)) = xs[0]? := hfs 0 _ rfl
  rw [List.getElem?_eq_getElem (by omega), s_int] at f0
  have f1 : DataW.trod enc Tryd.prog W 0 (fun _ => true) true n' 3 ((cs.drop 1).take (Tryd.prog.cellsOf 3)) = xs[1]? := hfs 1 _ rfl
  rw [List.getElem?_eq_getElem (by omega), s_int] at f1
  have f2 : DataW.trod enc Tryd.prog W 0 (fun _ => true) true n' 60 ((cs.drop 2).take (Tryd.prog.cellsOf 60)) = xs[2]? := hfs 2 _ rfl
  rw [List.getElem?_eq_getElem (by omega), s_api_Cmd] at f2
  obtain ⟨cl, e0, _, hcl⟩ := DataW.trod_int Tryd.underlying3 f0
  obtain ⟨sq, e1, _, hsq⟩ := DataW.trod_int Tryd.underlying3 f1
  obtain ⟨mck, mkey, mok, mox0, mos, mvk, mvx0, mvs, e2, p2_0, p2_1, p2_2, p2_3, p2_4, p2_5, p2_6, p2_7⟩ := cells_cmd f2
  refine ⟨cl, sq, mck, mkey, mok, mox0, mos, mvk, mvx0, mvs, ?_, law_i64 hcl, law_i64 hsq, p2_0, p2_1, p2_2, p2_3, p2_4, p2_5, p2_6, p2_7⟩
  show cs.drop 0 = _
  rw [cut_at cs (k := 0) (n := 1) (m := 1) rfl, e0, cut_at cs (k := 1) (n := 1) (m := 2) rfl, e1, cut_at cs (k := 2) (n := 8) (m := 10) rfl, e2, List.drop_eq_nil_of_le (by omega)]
  rfl
theorem cells_ent0 {H : Type} {enc : TypeId × Value → H} {W : World} {fuel : Nat} {cs : List Value} {x : DataW H × List MemPlace} (h : DataW.trod enc Tryd.prog W 0 (fun _ => true) true fuel 64 cs = some x) :
    ∃ (term : Int) (kind : Int) (qcl : Int) (qsq : Int) (qmck : Int) (qmkey : ByteArray) (qmok : Int) (qmox0 : Nat) (qmos : ByteArray) (qmvk : Int) (qmvx0 : Nat) (qmvs : ByteArray) (ga : Int) (gb : Int) (gc : Int) (gd : Int), cs = [.int .i64 term, .int .i64 kind, .int .i64 qcl, .int .i64 qsq, .int .i64 qmck, .string qmkey, .int .i64 qmok, .float .f64 qmox0, .string qmos, .int .i64 qmvk, .float .f64 qmvx0, .string qmvs, .int .i64 ga, .int .i64 gb, .int .i64 gc, .int .i64 gd] ∧ In64 term ∧ In64 kind ∧ In64 qcl ∧ In64 qsq ∧ In64 qmck ∧ qmkey.size ≤ maxLen ∧ In64 qmok ∧ qmox0 < 18446744073709551616 ∧ qmos.size ≤ maxLen ∧ In64 qmvk ∧ qmvx0 < 18446744073709551616 ∧ qmvs.size ≤ maxLen ∧ In64 ga ∧ In64 gb ∧ In64 gc ∧ In64 gd := by
  obtain ⟨xs, n', _, _, hl, hxl, hfs⟩ := DataW.trod_struct Tryd.underlying64 h
  rw [s_api_Entry] at hl
  have hxl2 : xs.length = 4 := hxl
  have f0 : DataW.trod enc Tryd.prog W 0 (fun _ => true) true n' 3 ((cs.drop 0).take (Tryd.prog.cellsOf 3)) = xs[0]? := hfs 0 _ rfl
  rw [List.getElem?_eq_getElem (by omega), s_int] at f0
  have f1 : DataW.trod enc Tryd.prog W 0 (fun _ => true) true n' 3 ((cs.drop 1).take (Tryd.prog.cellsOf 3)) = xs[1]? := hfs 1 _ rfl
  rw [List.getElem?_eq_getElem (by omega), s_int] at f1
  have f2 : DataW.trod enc Tryd.prog W 0 (fun _ => true) true n' 62 ((cs.drop 2).take (Tryd.prog.cellsOf 62)) = xs[2]? := hfs 2 _ rfl
  rw [List.getElem?_eq_getElem (by omega), s_api_Call] at f2
  have f3 : DataW.trod enc Tryd.prog W 0 (fun _ => true) true n' 25 ((cs.drop 12).take (Tryd.prog.cellsOf 25)) = xs[3]? := hfs 3 _ rfl
  rw [List.getElem?_eq_getElem (by omega), s_api_Conf] at f3
  obtain ⟨term, e0, _, hterm⟩ := DataW.trod_int Tryd.underlying3 f0
  obtain ⟨kind, e1, _, hkind⟩ := DataW.trod_int Tryd.underlying3 f1
  obtain ⟨qcl, qsq, qmck, qmkey, qmok, qmox0, qmos, qmvk, qmvx0, qmvs, e2, p2_0, p2_1, p2_2, p2_3, p2_4, p2_5, p2_6, p2_7, p2_8, p2_9⟩ := cells_call f2
  obtain ⟨ga, gb, gc, gd, e3, p3_0, p3_1, p3_2, p3_3⟩ := cells_conf f3
  refine ⟨term, kind, qcl, qsq, qmck, qmkey, qmok, qmox0, qmos, qmvk, qmvx0, qmvs, ga, gb, gc, gd, ?_, law_i64 hterm, law_i64 hkind, p2_0, p2_1, p2_2, p2_3, p2_4, p2_5, p2_6, p2_7, p2_8, p2_9, p3_0, p3_1, p3_2, p3_3⟩
  show cs.drop 0 = _
  rw [cut_at cs (k := 0) (n := 1) (m := 1) rfl, e0, cut_at cs (k := 1) (n := 1) (m := 2) rfl, e1, cut_at cs (k := 2) (n := 10) (m := 12) rfl, e2, cut_at cs (k := 12) (n := 4) (m := 16) rfl, e3, List.drop_eq_nil_of_le (by omega)]
  rfl
theorem cells_ent {H : Type} {enc : TypeId × Value → H} {W : World} {fuel : Nat} {cs : List Value} {x : DataW H × List MemPlace} (h : DataW.trod enc Tryd.prog W 0 (fun _ => true) true fuel 64 cs = some x) : ∃ e : En, cs = e.cells ∧ e.In ∧ e.Str := by
  obtain ⟨term, kind, qcl, qsq, qmck, qmkey, qmok, qmox0, qmos, qmvk, qmvx0, qmvs, ga, gb, gc, gd, e, p0, p1, p2, p3, p4, p5, p6, p7, p8, p9, p10, p11, p12, p13, p14, p15⟩ := cells_ent0 h
  exact ⟨⟨term, kind, qcl, qsq, qmck, qmkey, ⟨qmok, qmox0, qmos⟩, ⟨qmvk, qmvx0, qmvs⟩, ga, gb, gc, gd⟩, e, ⟨p0, p2, p3, p12, p13, p14, p15⟩, ⟨p5, p8, p11⟩⟩
theorem flat_len (es : List En) : (es.map En.cells).flatten.length = es.length * 16 := by
  induction es with
  | nil => rfl
  | cons e r ih => rw [List.map_cons, List.flatten_cons, List.length_append, ih, e.cells_len, List.length_cons]; omega
theorem flat_get (es : List En) : ∀ (i j : Nat) (e : En), j < 16 → es[i]? = some e → (es.map En.cells).flatten[i * 16 + j]? = e.cells[j]? := by
  induction es with
  | nil => intro i j e _ h; simp at h
  | cons a r ih =>
    intro i j e hj h
    rw [List.map_cons, List.flatten_cons]
    cases i with
    | zero =>
      simp at h
      subst h
      rw [Nat.zero_mul, Nat.zero_add, List.getElem?_append_left (by rw [a.cells_len]; exact hj)]
    | succ i =>
      rw [List.getElem?_append_right (by rw [a.cells_len]; omega), a.cells_len, show (i + 1) * 16 + j - 16 = i * 16 + j by omega]
      exact ih i j e hj (by simpa using h)
theorem cells_ents {H : Type} {enc : TypeId × Value → H} {W : World} {fuel : Nat} {cs : List Value} {x : DataW H × List MemPlace} (hf : DataW.trod enc Tryd.prog W 0 (fun _ => true) true fuel 27 cs = some x) :
    ∃ A m c es, cs = [.slice A m c] ∧ EnRows W W.heap.size A m c es ∧ es.length = m ∧ (∀ e ∈ es, e.In) ∧ (∀ e ∈ es, e.Str) := by
  rcases DataW.trod_slice Tryd.underlying27 hf with ⟨hcs, _⟩ | ⟨a, len, cap, elems, rest, fl, _, hcs, _, _, hl, hm, hel, hat, _, _⟩
  · exact ⟨none, 0, 0, [], hcs, Rd.nil _ _ _, rfl, by simp, by simp⟩
  · have each : ∀ i, i < len → ∃ e : En, e.In ∧ e.Str ∧ ∀ j, j < 16 → ∃ u, e.cells[j]? = some u ∧ W.cell? ((a.add (i * 16)).add j) = some u := by
      intro i hi
      have h1 := hat i hi
      rw [s_api_Entry, List.getElem?_eq_getElem (by omega), Option.bind_eq_some_iff] at h1
      obtain ⟨cs', h2, h3⟩ := h1
      obtain ⟨_, hlen, hcell⟩ := World.cells?_some h2
      obtain ⟨e, rfl, h4, h5⟩ := cells_ent h3
      refine ⟨e, h4, h5, fun j hj => ?_⟩
      have hj' : j < e.cells.length := hj
      exact ⟨e.cells[j], List.getElem?_eq_getElem hj', by rw [hcell j hj, List.getElem?_eq_getElem hj']⟩
    by_cases h0 : 0 < len
    · obtain ⟨_, _, _, hu0⟩ := each 0 h0
      obtain ⟨_, _, hu0⟩ := hu0 0 (by decide)
      obtain ⟨b, off, spot⟩ := a
      have hspot : spot = none := by simpa [Addr.add] using World.cell?_spot hu0
      subst hspot
      have hblt : b < W.heap.size := World.block_lt_of_cell? _ _ (by simpa [Addr.add] using hu0)
      obtain ⟨es, hes⟩ : ∃ es : List En, es = (List.range len).map fun i => if h : i < len then Classical.choose (each i h) else e0 := ⟨_, rfl⟩
      have hel2 : es.length = len := by rw [hes]; simp
      have hget : ∀ i e, es[i]? = some e → i < len ∧ e.In ∧ e.Str ∧ ∀ j, j < 16 → ∃ u, e.cells[j]? = some u ∧ W.cell? ⟨b, off + i * 16 + j, none⟩ = some u := fun i e he => by
        have hi : i < len := by have := (List.getElem?_eq_some_iff.1 he).1; omega
        rw [hes] at he
        simp [hi] at he
        have hs := Classical.choose_spec (each i hi)
        rw [he] at hs
        refine ⟨hi, hs.1, hs.2.1, fun j hj => ?_⟩
        obtain ⟨u, h1, h2⟩ := hs.2.2 j hj
        rw [addr_add, addr_add] at h2
        exact ⟨u, h1, h2⟩
      have hmem : ∀ e ∈ es, e.In ∧ e.Str := fun e he => by
        obtain ⟨i, hi⟩ := List.getElem?_of_mem he
        obtain ⟨_, h1, h2, _⟩ := hget i e hi
        exact ⟨h1, h2⟩
      have hfl : (es.map En.cells).flatten.length = len * 16 := by
        rw [← hel2]
        exact flat_len es
      refine ⟨_, _, _, es, hcs, ⟨hfl, hl, hm, fun _ => ⟨b, off, rfl, hblt, fun j u hu => ?_⟩⟩, hel2, fun e he => (hmem e he).1, fun e he => (hmem e he).2⟩
      have hj : j < len * 16 := by have := (List.getElem?_eq_some_iff.1 hu).1; omega
      obtain ⟨e, he⟩ : ∃ e, es[j / 16]? = some e := ⟨_, List.getElem?_eq_getElem (by omega)⟩
      obtain ⟨_, _, _, h3⟩ := hget _ e he
      obtain ⟨u', h4, h5⟩ := h3 (j % 16) (by omega)
      have h6 := flat_get es (j / 16) (j % 16) e (by omega) he
      rw [show j / 16 * 16 + j % 16 = j by omega, hu, h4] at h6
      injection h6 with h6
      subst h6
      rw [← h5]
      congr 2
      omega
    · obtain rfl : len = 0 := by omega
      exact ⟨_, _, _, [], hcs, ⟨rfl, hl, hm, fun h => by omega⟩, rfl, by simp, by simp⟩
theorem cells_bslice {H : Type} {enc : TypeId × Value → H} {W : World} {fuel : Nat} {cs : List Value} {x : DataW H × List MemPlace} (hf : DataW.trod enc Tryd.prog W 0 (fun _ => true) true fuel 26 cs = some x) : ∃ A n c, cs = [.slice A n c] := by
  rcases DataW.trod_slice Tryd.underlying26 hf with ⟨hcs, _⟩ | ⟨a, len, cap, elems, rest, fl, _, hcs, _⟩
  · exact ⟨_, _, _, hcs⟩
  · exact ⟨_, _, _, hcs⟩
theorem cells_hard {H : Type} {enc : TypeId × Value → H} {W : World} {fuel : Nat} {cs : List Value} {x : DataW H × List MemPlace} (h : DataW.trod enc Tryd.prog W 0 (fun _ => true) true fuel 29 cs = some x) :
    ∃ (g : Hd) (S : Option Addr) (sn sc : Nat) (A : Option Addr) (m c : Nat) (es : List En), cs = g.cells S sn sc A m c ∧ EnRows W W.heap.size A m c es ∧ es.length = m ∧ (∀ e ∈ es, e.In) ∧ (∀ e ∈ es, e.Str) ∧ In64 g.base := by
  obtain ⟨xs, n', _, _, hl, hxl, hfs⟩ := DataW.trod_struct Tryd.underlying29 h
  rw [s_api_Hard] at hl
  have hxl2 : xs.length = 7 := hxl
  have f0 : DataW.trod enc Tryd.prog W 0 (fun _ => true) true n' 3 ((cs.drop 0).take (Tryd.prog.cellsOf 3)) = xs[0]? := hfs 0 _ rfl
  rw [List.getElem?_eq_getElem (by omega), s_int] at f0
  have f1 : DataW.trod enc Tryd.prog W 0 (fun _ => true) true n' 3 ((cs.drop 1).take (Tryd.prog.cellsOf 3)) = xs[1]? := hfs 1 _ rfl
  rw [List.getElem?_eq_getElem (by omega), s_int] at f1
  have f2 : DataW.trod enc Tryd.prog W 0 (fun _ => true) true n' 3 ((cs.drop 2).take (Tryd.prog.cellsOf 3)) = xs[2]? := hfs 2 _ rfl
  rw [List.getElem?_eq_getElem (by omega), s_int] at f2
  have f3 : DataW.trod enc Tryd.prog W 0 (fun _ => true) true n' 3 ((cs.drop 3).take (Tryd.prog.cellsOf 3)) = xs[3]? := hfs 3 _ rfl
  rw [List.getElem?_eq_getElem (by omega), s_int] at f3
  have f4 : DataW.trod enc Tryd.prog W 0 (fun _ => true) true n' 25 ((cs.drop 4).take (Tryd.prog.cellsOf 25)) = xs[4]? := hfs 4 _ rfl
  rw [List.getElem?_eq_getElem (by omega), s_api_Conf] at f4
  have f5 : DataW.trod enc Tryd.prog W 0 (fun _ => true) true n' 26 ((cs.drop 8).take (Tryd.prog.cellsOf 26)) = xs[5]? := hfs 5 _ rfl
  rw [List.getElem?_eq_getElem (by omega), s_sl_uint8] at f5
  have f6 : DataW.trod enc Tryd.prog W 0 (fun _ => true) true n' 27 ((cs.drop 9).take (Tryd.prog.cellsOf 27)) = xs[6]? := hfs 6 _ rfl
  rw [List.getElem?_eq_getElem (by omega), s_sl_api_Entry] at f6
  obtain ⟨t, e0, _, _⟩ := DataW.trod_int Tryd.underlying3 f0
  obtain ⟨v, e1, _, _⟩ := DataW.trod_int Tryd.underlying3 f1
  obtain ⟨b, e2, _, hb⟩ := DataW.trod_int Tryd.underlying3 f2
  obtain ⟨bt, e3, _, _⟩ := DataW.trod_int Tryd.underlying3 f3
  obtain ⟨a1, a2, a3, a4, e4, _⟩ := cells_conf f4
  obtain ⟨S, sn, sc, e5⟩ := cells_bslice f5
  obtain ⟨A, m, c, es, e6, h1, h2, h3, h4⟩ := cells_ents f6
  refine ⟨⟨t, v, b, bt, a1, a2, a3, a4⟩, S, sn, sc, A, m, c, es, ?_, h1, h2, h3, h4, law_i64 hb⟩
  show cs.drop 0 = _
  rw [cut_at cs (k := 0) (n := 1) (m := 1) rfl, e0, cut_at cs (k := 1) (n := 1) (m := 2) rfl, e1, cut_at cs (k := 2) (n := 1) (m := 3) rfl, e2, cut_at cs (k := 3) (n := 1) (m := 4) rfl, e3, cut_at cs (k := 4) (n := 4) (m := 8) rfl, e4, cut_at cs (k := 8) (n := 1) (m := 9) rfl, e5, cut_at cs (k := 9) (n := 1) (m := 10) rfl, e6, List.drop_eq_nil_of_le (by omega)]
  rfl
theorem law_hard {H : Type} {enc : TypeId × Value → H} {W : World} {base : Nat} {v : Value} {d : DataW H} {ps : List MemPlace} (hv : Value.okWide Tryd.prog W .any base 29 v)
    (h : DataW.Trod enc Tryd.prog W 0 (fun _ => true) true 29 v d ps) :
    ∃ (g : Hd) (S : Option Addr) (sn sc : Nat) (A : Option Addr) (m c : Nat) (es : List En), v = .agg #[.int .i64 g.term, .int .i64 g.vote, .int .i64 g.base, .int .i64 g.bt, .int .i64 g.full, .int .i64 g.wit, .int .i64 g.learn, .int .i64 g.lw, .slice S sn sc, .slice A m c] ∧ EnRows W W.heap.size A m c es ∧ es.length = m ∧ (∀ e ∈ es, e.In) ∧ (∀ e ∈ es, e.Str) ∧ In64 g.base := by
  obtain ⟨cs, rfl, hsz⟩ := okWide_struct Tryd.underlying29 hv
  obtain ⟨fuel, hf⟩ := h
  have hcs : (Value.agg cs).cells = cs := rfl
  rw [hcs] at hf
  obtain ⟨g, S, sn, sc, A, m, c, es, e, h1⟩ := cells_hard hf
  exact ⟨g, S, sn, sc, A, m, c, es, by rw [← Array.toArray_toList (xs := cs), e]; rfl, h1⟩
theorem law_val {H : Type} {enc : TypeId × Value → H} {W : World} {base : Nat} {v : Value} {d : DataW H} {ps : List MemPlace} (hv : Value.okWide Tryd.prog W .any base 56 v)
    (h : DataW.Trod enc Tryd.prog W 0 (fun _ => true) true 56 v d ps) : ∃ a : Va, v = .agg #[.int .i64 a.k, .float .f64 a.x, .string a.s] ∧ In64 a.k ∧ a.x < 18446744073709551616 ∧ a.s.size ≤ maxLen := by
  obtain ⟨cs, rfl, hsz⟩ := okWide_struct Tryd.underlying56 hv
  obtain ⟨fuel, hf⟩ := h
  have hcs : (Value.agg cs).cells = cs := rfl
  rw [hcs] at hf
  obtain ⟨k, m, s, e, hk, hm, hz⟩ := cells_va hf
  exact ⟨⟨k, m, s⟩, by rw [← Array.toArray_toList (xs := cs), e], hk, hm, hz⟩
end Go.Proofs.YtkckncggiicciaaDoor
/-
  Replicas and a machine that came in; written by genlawx.py.
-/
namespace Go.Proofs.YtkckncggiicciaaDoor
open Go.RowKit Go.ChangeShapes Go.WideShapes Go.ChangeAt
set_option maxRecDepth 100000
theorem s_sl_api_Read : Tryd.prog.cellsOf 31 = 1 := by kernel_rfl
theorem s_api_Read : Tryd.prog.cellsOf 121 = 13 := by kernel_rfl
theorem s_api_Raft : Tryd.prog.cellsOf 33 = 40 := by kernel_rfl
theorem s_a7_int : Tryd.prog.cellsOf 30 = 7 := by kernel_rfl
theorem s_api_Pair : Tryd.prog.cellsOf 66 = 4 := by kernel_rfl
theorem s_sl_api_Pair : Tryd.prog.cellsOf 41 = 1 := by kernel_rfl
theorem s_api_Reply : Tryd.prog.cellsOf 81 = 4 := by kernel_rfl
theorem s_api_Sess : Tryd.prog.cellsOf 83 = 6 := by kernel_rfl
theorem s_sl_api_Sess : Tryd.prog.cellsOf 42 = 1 := by kernel_rfl
theorem s_api_Machine : Tryd.prog.cellsOf 44 = 2 := by kernel_rfl
theorem s_api_Errno : Tryd.prog.cellsOf 67 = 1 := by kernel_rfl
theorem s_uint8 : Tryd.prog.cellsOf 5 = 1 := by kernel_rfl
/-- Each string, slice and map of a datum is of a size that a machine has. -/
def WOk {H : Type} (t : TypeId) (d : DataW H) : Prop := (d.weights Tryd.prog t).all (· ≤ reachBytes) = true
theorem wok_each {H : Type} : ∀ {ts : List TypeId} {ds : List (DataW H)}, (DataW.weightsEach Tryd.prog ts ds).all (· ≤ reachBytes) = true → ∀ {j : Nat} {t : TypeId} {d : DataW H}, ts[j]? = some t → ds[j]? = some d → WOk t d := fun h j t d ht hd => by
  unfold WOk
  rw [List.all_eq_true]
  intro n hn
  exact List.all_eq_true.1 h n (DataW.weights_mem_each ht hd n hn)
theorem wall_mem {H : Type} {e : TypeId} : ∀ {l : List (DataW H)} {d : DataW H}, d ∈ l → ∀ n ∈ d.weights Tryd.prog e, n ∈ DataW.weightsAll Tryd.prog e l
  | a :: l, d, hd, n, hn => by
    rw [DataW.weightsAll, List.mem_append]
    rcases List.mem_cons.1 hd with rfl | h
    · exact .inl hn
    · exact .inr (wall_mem h n hn)
theorem wok_slice {H : Type} {t e : TypeId} {elems spare : List (DataW H)} (hu : Tryd.prog.underlying t = some (.slice e)) (h : WOk t (.slice elems spare)) : elems.length * Tryd.prog.bytesOf e ≤ reachBytes ∧ ∀ d ∈ elems, WOk e d := by
  unfold WOk at h
  rw [DataW.weights, hu] at h
  dsimp only at h
  rw [List.all_cons, Bool.and_eq_true, List.all_append, Bool.and_eq_true] at h
  refine ⟨?_, fun d hd => ?_⟩
  · have h1 : (elems.length + spare.length) * Tryd.prog.bytesOf e ≤ reachBytes := by simpa using h.1
    exact Nat.le_trans (Nat.mul_le_mul_right _ (Nat.le_add_right _ _)) h1
  · unfold WOk
    rw [List.all_eq_true]
    exact fun n hn => List.all_eq_true.1 h.2.1 n (wall_mem hd n hn)
theorem wok_agg {H : Type} {t : TypeId} {fs : Array Field} {parts : List (DataW H)} (hu : Tryd.prog.underlying t = some (.struct fs)) (h : WOk t (.agg parts)) {i : Nat} {f : Field} {d : DataW H} (hf : fs[i]? = some f) (hd : parts[i]? = some d) : WOk f.type d := by
  unfold WOk at h
  rw [DataW.weights, hu] at h
  exact wok_each h (j := i) (by rw [List.getElem?_map, Array.getElem?_toList, hf]; rfl) hd
theorem rows_len {α : Type} (F : α → List Value) (size : Nat) (hF : ∀ a, (F a).length = size) (l : List α) : (l.map F).flatten.length = l.length * size := by
  induction l with
  | nil => simp
  | cons e r ih => rw [List.map_cons, List.flatten_cons, List.length_append, ih, hF, List.length_cons, Nat.add_mul, Nat.one_mul, Nat.add_comm]
theorem rows_get {α : Type} (F : α → List Value) (size : Nat) (hF : ∀ a, (F a).length = size) (l : List α) : ∀ (i j : Nat) (e : α), j < size → l[i]? = some e → (l.map F).flatten[i * size + j]? = (F e)[j]? := by
  induction l with
  | nil => intro i j e _ h; simp at h
  | cons a r ih =>
    intro i j e hj h
    rw [List.map_cons, List.flatten_cons]
    cases i with
    | zero =>
      simp at h
      subst h
      rw [Nat.zero_mul, Nat.zero_add, List.getElem?_append_left (by rw [hF]; exact hj)]
    | succ i =>
      rw [List.getElem?_append_right (by rw [hF, Nat.add_mul, Nat.one_mul]; omega), hF, show (i + 1) * size + j - size = i * size + j by rw [Nat.add_mul, Nat.one_mul]; omega]
      exact ih i j e hj (by simpa using h)
/-- A slice of structs that came in. -/
theorem cells_rows {H α : Type} {enc : TypeId × Value → H} {W : World} {fuel : Nat} {cs : List Value} {x : DataW H × List MemPlace} {t e : TypeId} (F : α → List Value) (size : Nat) (hF : ∀ a, (F a).length = size) (hs : 0 < size) (d0 : α) (hu : Tryd.prog.underlying t = some (.slice e)) (hce : Tryd.prog.cellsOf e = size) (Pr : α → Prop)
    (heach : ∀ {fuel : Nat} {cs : List Value} {y : DataW H × List MemPlace}, DataW.trod enc Tryd.prog W 0 (fun _ => true) true fuel e cs = some y → WOk e y.1 → ∃ a : α, cs = F a ∧ Pr a)
    (hf : DataW.trod enc Tryd.prog W 0 (fun _ => true) true fuel t cs = some x) (hw : WOk t x.1) :
    ∃ A m c, ∃ l : List α, cs = [.slice A m c] ∧ Rd W W.heap.size size A m c (l.map F).flatten ∧ l.length = m ∧ (∀ a ∈ l, Pr a) ∧ m * Tryd.prog.bytesOf e ≤ reachBytes := by
  rcases DataW.trod_slice hu hf with ⟨hcs, _⟩ | ⟨a, len, cap, elems, rest, fl, _, hcs, hx, _, hl, hm, hel, hat, _, _⟩
  · exact ⟨none, 0, 0, [], hcs, Rd.nil _ _ _, rfl, by simp, by simp⟩
  · rw [hx] at hw
    obtain ⟨hby, hwe⟩ := wok_slice hu hw
    rw [List.length_map, hel] at hby
    have each : ∀ i, i < len → ∃ e : α, Pr e ∧ ∀ j, j < size → ∃ u, (F e)[j]? = some u ∧ W.cell? ((a.add (i * size)).add j) = some u := by
      intro i hi
      have h1 := hat i hi
      rw [hce, List.getElem?_eq_getElem (by omega), Option.bind_eq_some_iff] at h1
      obtain ⟨cs', h2, h3⟩ := h1
      obtain ⟨_, hlen, hcell⟩ := World.cells?_some h2
      obtain ⟨e, rfl, h4⟩ := heach h3 (hwe _ (List.mem_map_of_mem (List.getElem_mem _)))
      refine ⟨e, h4, fun j hj => ?_⟩
      have hj' : j < (F e).length := by rw [hF]; exact hj
      exact ⟨(F e)[j], List.getElem?_eq_getElem hj', by rw [hcell j hj, List.getElem?_eq_getElem hj']⟩
    by_cases h0 : 0 < len
    · obtain ⟨_, _, hu0⟩ := each 0 h0
      obtain ⟨_, _, hu0⟩ := hu0 0 hs
      obtain ⟨b, off, spot⟩ := a
      have hspot : spot = none := by simpa [Addr.add] using World.cell?_spot hu0
      subst hspot
      have hblt : b < W.heap.size := World.block_lt_of_cell? _ _ (by simpa [Addr.add] using hu0)
      obtain ⟨es, hes⟩ : ∃ es : List α, es = (List.range len).map fun i => if h : i < len then Classical.choose (each i h) else d0 := ⟨_, rfl⟩
      have hel2 : es.length = len := by rw [hes]; simp
      have hget : ∀ i e, es[i]? = some e → i < len ∧ Pr e ∧ ∀ j, j < size → ∃ u, (F e)[j]? = some u ∧ W.cell? ⟨b, off + i * size + j, none⟩ = some u := fun i e he => by
        have hi : i < len := by have := (List.getElem?_eq_some_iff.1 he).1; omega
        rw [hes] at he
        simp [hi] at he
        have hs := Classical.choose_spec (each i hi)
        rw [he] at hs
        refine ⟨hi, hs.1, fun j hj => ?_⟩
        obtain ⟨u, h1, h2⟩ := hs.2 j hj
        rw [addr_add, addr_add] at h2
        exact ⟨u, h1, h2⟩
      have hmem : ∀ e ∈ es, Pr e := fun e he => by
        obtain ⟨i, hi⟩ := List.getElem?_of_mem he
        obtain ⟨_, h1, _⟩ := hget i e hi
        exact h1
      have hfl : (es.map F).flatten.length = len * size := by
        rw [← hel2]
        exact rows_len F size hF es
      refine ⟨_, _, _, es, hcs, ⟨hfl, hl, hm, fun _ => ⟨b, off, rfl, hblt, fun j u hu => ?_⟩⟩, hel2, hmem, hby⟩
      have hj : j < len * size := by have := (List.getElem?_eq_some_iff.1 hu).1; omega
      have hjd : j / size < len := Nat.div_lt_of_lt_mul (by rw [Nat.mul_comm]; exact hj)
      have hjm : j % size < size := Nat.mod_lt _ hs
      have hje : j / size * size + j % size = j := by rw [Nat.mul_comm]; exact Nat.div_add_mod j size
      obtain ⟨e, he⟩ : ∃ e, es[j / size]? = some e := ⟨_, List.getElem?_eq_getElem (by omega)⟩
      obtain ⟨_, _, h3⟩ := hget _ e he
      obtain ⟨u', h4, h5⟩ := h3 (j % size) hjm
      have h6 := rows_get F size hF es (j / size) (j % size) e hjm he
      rw [hje, hu, h4] at h6
      injection h6 with h6
      subst h6
      rw [← h5]
      congr 2
      rw [Nat.add_assoc, hje]
    · obtain rfl : len = 0 := by omega
      exact ⟨_, _, _, [], hcs, ⟨by simp, hl, hm, fun h => by omega⟩, rfl, by simp, hby⟩
theorem cells_bytes {H : Type} {enc : TypeId × Value → H} {W : World} {fuel : Nat} {cs : List Value} {x : DataW H × List MemPlace} (hf : DataW.trod enc Tryd.prog W 0 (fun _ => true) true fuel 26 cs = some x) (hw : WOk 26 x.1) :
    ∃ A m c, ∃ l : List UInt8, cs = [.slice A m c] ∧ By W W.heap.size A m c l := by
  have hflat : ∀ l : List UInt8, (l.map fun b : UInt8 => [bv b]).flatten = l.map bv := fun l => by
    induction l with
    | nil => rfl
    | cons a r ih => rw [List.map_cons, List.flatten_cons, ih, List.map_cons]; rfl
  obtain ⟨A, m, c, l, h1, h2, _⟩ := cells_rows (fun b : UInt8 => [bv b]) 1 (fun _ => rfl) (by decide) 0 Tryd.underlying26 s_uint8 (fun _ => True) (fun h _ => by
    obtain ⟨n, e, _, hz⟩ := DataW.trod_int Tryd.underlying5 h
    have hr : 0 ≤ n ∧ n ≤ 255 := by simpa [Lit.wf, IntKind.min, IntKind.max, IntKind.signed, IntKind.bits] using hz
    obtain ⟨k, rfl⟩ := Int.eq_ofNat_of_zero_le hr.1
    refine ⟨UInt8.ofNat k, ?_, trivial⟩
    rw [e]
    unfold bv
    have : (UInt8.ofNat k).toNat = k := by rw [UInt8.toNat_ofNat']; omega
    rw [this]) hf hw
  refine ⟨A, m, c, l, h1, ?_⟩
  have e := hflat l
  unfold By
  rw [← e]
  exact h2
theorem cells_ints7 {H : Type} {enc : TypeId × Value → H} {W : World} {fuel : Nat} {cs : List Value} {x : DataW H × List MemPlace} (hf : DataW.trod enc Tryd.prog W 0 (fun _ => true) true fuel 30 cs = some x) :
    ∃ S : Nat → Int, cs = [.int .i64 (S 0), .int .i64 (S 1), .int .i64 (S 2), .int .i64 (S 3), .int .i64 (S 4), .int .i64 (S 5), .int .i64 (S 6)] := by
  obtain ⟨xs, m, _, _, hl, hxl, he⟩ := DataW.trod_array Tryd.underlying30 hf
  rw [s_a7_int] at hl
  have each : ∀ i, i < 7 → ∃ z, cs[i]? = some (.int .i64 z) := by
    intro i hi
    have h1 := he i hi
    rw [s_int, Nat.mul_one, List.getElem?_eq_getElem (by omega)] at h1
    have h2 : (cs.drop i).take 1 = [cs[i]'(by omega)] := by
      rw [List.drop_eq_getElem_cons (by omega)]
      rfl
    rw [h2] at h1
    obtain ⟨z, e, _, _⟩ := DataW.trod_int Tryd.underlying3 h1
    injection e with e _
    exact ⟨z, by rw [List.getElem?_eq_getElem (by omega), e]⟩
  refine ⟨fun i => if h : i < 7 then Classical.choose (each i h) else 0, ?_⟩
  have hat : ∀ i (h : i < 7), cs[i]? = some (.int .i64 (Classical.choose (each i h))) := fun i h => Classical.choose_spec (each i h)
  refine List.ext_getElem? fun i => ?_
  by_cases hi : i < 7
  · rw [hat i hi]
    match i, hi with
    | 0, _ | 1, _ | 2, _ | 3, _ | 4, _ | 5, _ | 6, _ => rfl
  · rw [List.getElem?_eq_none (by omega), List.getElem?_eq_none (by simp; omega)]
theorem cells_read0 {H : Type} {enc : TypeId × Value → H} {W : World} {fuel : Nat} {cs : List Value} {x : DataW H × List MemPlace} (h : DataW.trod enc Tryd.prog W 0 (fun _ => true) true fuel 121 cs = some x) :
    ∃ (qcl : Int) (qsq : Int) (qmck : Int) (qmkey : ByteArray) (qmok : Int) (qmox0 : Nat) (qmos : ByteArray) (qmvk : Int) (qmvx0 : Nat) (qmvs : ByteArray) (ix : Int) (ro : Int) (ac : Int), cs = [.int .i64 qcl, .int .i64 qsq, .int .i64 qmck, .string qmkey, .int .i64 qmok, .float .f64 qmox0, .string qmos, .int .i64 qmvk, .float .f64 qmvx0, .string qmvs, .int .i64 ix, .int .i64 ro, .int .i64 ac] ∧ In64 qcl ∧ In64 qsq ∧ In64 qmck ∧ qmkey.size ≤ maxLen ∧ In64 qmok ∧ qmox0 < 18446744073709551616 ∧ qmos.size ≤ maxLen ∧ In64 qmvk ∧ qmvx0 < 18446744073709551616 ∧ qmvs.size ≤ maxLen ∧ In64 ix ∧ In64 ro ∧ In64 ac := by
  obtain ⟨xs, n', _, _, hl, hxl, hfs⟩ := DataW.trod_struct Tryd.underlying121 h
  rw [s_api_Read] at hl
  have hxl2 : xs.length = 4 := hxl
  have f0 : DataW.trod enc Tryd.prog W 0 (fun _ => true) true n' 62 ((cs.drop 0).take (Tryd.prog.cellsOf 62)) = xs[0]? := hfs 0 _ rfl
  rw [List.getElem?_eq_getElem (by omega), s_api_Call] at f0
  have f1 : DataW.trod enc Tryd.prog W 0 (fun _ => true) true n' 3 ((cs.drop 10).take (Tryd.prog.cellsOf 3)) = xs[1]? := hfs 1 _ rfl
  rw [List.getElem?_eq_getElem (by omega), s_int] at f1
  have f2 : DataW.trod enc Tryd.prog W 0 (fun _ => true) true n' 3 ((cs.drop 11).take (Tryd.prog.cellsOf 3)) = xs[2]? := hfs 2 _ rfl
  rw [List.getElem?_eq_getElem (by omega), s_int] at f2
  have f3 : DataW.trod enc Tryd.prog W 0 (fun _ => true) true n' 3 ((cs.drop 12).take (Tryd.prog.cellsOf 3)) = xs[3]? := hfs 3 _ rfl
  rw [List.getElem?_eq_getElem (by omega), s_int] at f3
  obtain ⟨qcl, qsq, qmck, qmkey, qmok, qmox0, qmos, qmvk, qmvx0, qmvs, e0, p0_0, p0_1, p0_2, p0_3, p0_4, p0_5, p0_6, p0_7, p0_8, p0_9⟩ := cells_call f0
  obtain ⟨ix, e1, _, hix⟩ := DataW.trod_int Tryd.underlying3 f1
  obtain ⟨ro, e2, _, hro⟩ := DataW.trod_int Tryd.underlying3 f2
  obtain ⟨ac, e3, _, hac⟩ := DataW.trod_int Tryd.underlying3 f3
  refine ⟨qcl, qsq, qmck, qmkey, qmok, qmox0, qmos, qmvk, qmvx0, qmvs, ix, ro, ac, ?_, p0_0, p0_1, p0_2, p0_3, p0_4, p0_5, p0_6, p0_7, p0_8, p0_9, law_i64 hix, law_i64 hro, law_i64 hac⟩
  show cs.drop 0 = _
  rw [cut_at cs (k := 0) (n := 10) (m := 10) rfl, e0, cut_at cs (k := 10) (n := 1) (m := 11) rfl, e1, cut_at cs (k := 11) (n := 1) (m := 12) rfl, e2, cut_at cs (k := 12) (n := 1) (m := 13) rfl, e3, List.drop_eq_nil_of_le (by omega)]
  rfl
theorem cells_pair0 {H : Type} {enc : TypeId × Value → H} {W : World} {fuel : Nat} {cs : List Value} {x : DataW H × List MemPlace} (h : DataW.trod enc Tryd.prog W 0 (fun _ => true) true fuel 66 cs = some x) :
    ∃ (key : ByteArray) (vk : Int) (vx0 : Nat) (vs : ByteArray), cs = [.string key, .int .i64 vk, .float .f64 vx0, .string vs] ∧ key.size ≤ maxLen ∧ In64 vk ∧ vx0 < 18446744073709551616 ∧ vs.size ≤ maxLen := by
  obtain ⟨xs, n', _, _, hl, hxl, hfs⟩ := DataW.trod_struct Tryd.underlying66 h
  rw [s_api_Pair] at hl
  have hxl2 : xs.length = 2 := hxl
  have f0 : DataW.trod enc Tryd.prog W 0 (fun _ => true) true n' 9 ((cs.drop 0).take (Tryd.prog.cellsOf 9)) = xs[0]? := hfs 0 _ rfl
  rw [List.getElem?_eq_getElem (by omega), s_string] at f0
  have f1 : DataW.trod enc Tryd.prog W 0 (fun _ => true) true n' 56 ((cs.drop 1).take (Tryd.prog.cellsOf 56)) = xs[1]? := hfs 1 _ rfl
  rw [List.getElem?_eq_getElem (by omega), s_api_Value] at f1
  obtain ⟨key, e0, _, hkey⟩ := DataW.trod_string Tryd.underlying9 f0
  obtain ⟨vk, vx0, vs, e1, p1_0, p1_1, p1_2⟩ := cells_va f1
  refine ⟨key, vk, vx0, vs, ?_, hkey, p1_0, p1_1, p1_2⟩
  show cs.drop 0 = _
  rw [cut_at cs (k := 0) (n := 1) (m := 1) rfl, e0, cut_at cs (k := 1) (n := 3) (m := 4) rfl, e1, List.drop_eq_nil_of_le (by omega)]
  rfl
theorem cells_reply {H : Type} {enc : TypeId × Value → H} {W : World} {fuel : Nat} {cs : List Value} {x : DataW H × List MemPlace} (h : DataW.trod enc Tryd.prog W 0 (fun _ => true) true fuel 81 cs = some x) :
    ∃ (code : Int) (vk : Int) (vx0 : Nat) (vs : ByteArray), cs = [.int .i64 code, .int .i64 vk, .float .f64 vx0, .string vs] ∧ In64 code ∧ In64 vk ∧ vx0 < 18446744073709551616 ∧ vs.size ≤ maxLen := by
  obtain ⟨xs, n', _, _, hl, hxl, hfs⟩ := DataW.trod_struct Tryd.underlying81 h
  rw [s_api_Reply] at hl
  have hxl2 : xs.length = 2 := hxl
  have f0 : DataW.trod enc Tryd.prog W 0 (fun _ => true) true n' 67 ((cs.drop 0).take (Tryd.prog.cellsOf 67)) = xs[0]? := hfs 0 _ rfl
  rw [List.getElem?_eq_getElem (by omega), s_api_Errno] at f0
  have f1 : DataW.trod enc Tryd.prog W 0 (fun _ => true) true n' 56 ((cs.drop 1).take (Tryd.prog.cellsOf 56)) = xs[1]? := hfs 1 _ rfl
  rw [List.getElem?_eq_getElem (by omega), s_api_Value] at f1
  obtain ⟨code, e0, _, hcode⟩ := DataW.trod_int Tryd.underlying67 f0
  obtain ⟨vk, vx0, vs, e1, p1_0, p1_1, p1_2⟩ := cells_va f1
  refine ⟨code, vk, vx0, vs, ?_, law_i64 hcode, p1_0, p1_1, p1_2⟩
  show cs.drop 0 = _
  rw [cut_at cs (k := 0) (n := 1) (m := 1) rfl, e0, cut_at cs (k := 1) (n := 3) (m := 4) rfl, e1, List.drop_eq_nil_of_le (by omega)]
  rfl
theorem cells_sess0 {H : Type} {enc : TypeId × Value → H} {W : World} {fuel : Nat} {cs : List Value} {x : DataW H × List MemPlace} (h : DataW.trod enc Tryd.prog W 0 (fun _ => true) true fuel 83 cs = some x) :
    ∃ (cl : Int) (sq : Int) (rcode : Int) (rvk : Int) (rvx0 : Nat) (rvs : ByteArray), cs = [.int .i64 cl, .int .i64 sq, .int .i64 rcode, .int .i64 rvk, .float .f64 rvx0, .string rvs] ∧ In64 cl ∧ In64 sq ∧ In64 rcode ∧ In64 rvk ∧ rvx0 < 18446744073709551616 ∧ rvs.size ≤ maxLen := by
  obtain ⟨xs, n', _, _, hl, hxl, hfs⟩ := DataW.trod_struct Tryd.underlying83 h
  rw [s_api_Sess] at hl
  have hxl2 : xs.length = 3 := hxl
  have f0 : DataW.trod enc Tryd.prog W 0 (fun _ => true) true n' 3 ((cs.drop 0).take (Tryd.prog.cellsOf 3)) = xs[0]? := hfs 0 _ rfl
  rw [List.getElem?_eq_getElem (by omega), s_int] at f0
  have f1 : DataW.trod enc Tryd.prog W 0 (fun _ => true) true n' 3 ((cs.drop 1).take (Tryd.prog.cellsOf 3)) = xs[1]? := hfs 1 _ rfl
  rw [List.getElem?_eq_getElem (by omega), s_int] at f1
  have f2 : DataW.trod enc Tryd.prog W 0 (fun _ => true) true n' 81 ((cs.drop 2).take (Tryd.prog.cellsOf 81)) = xs[2]? := hfs 2 _ rfl
  rw [List.getElem?_eq_getElem (by omega), s_api_Reply] at f2
  obtain ⟨cl, e0, _, hcl⟩ := DataW.trod_int Tryd.underlying3 f0
  obtain ⟨sq, e1, _, hsq⟩ := DataW.trod_int Tryd.underlying3 f1
  obtain ⟨rcode, rvk, rvx0, rvs, e2, p2_0, p2_1, p2_2, p2_3⟩ := cells_reply f2
  refine ⟨cl, sq, rcode, rvk, rvx0, rvs, ?_, law_i64 hcl, law_i64 hsq, p2_0, p2_1, p2_2, p2_3⟩
  show cs.drop 0 = _
  rw [cut_at cs (k := 0) (n := 1) (m := 1) rfl, e0, cut_at cs (k := 1) (n := 1) (m := 2) rfl, e1, cut_at cs (k := 2) (n := 4) (m := 6) rfl, e2, List.drop_eq_nil_of_le (by omega)]
  rfl
theorem cells_read {H : Type} {enc : TypeId × Value → H} {W : World} {fuel : Nat} {cs : List Value} {x : DataW H × List MemPlace} (h : DataW.trod enc Tryd.prog W 0 (fun _ => true) true fuel 121 cs = some x) : ∃ e : Rq, cs = e.cells := by
  obtain ⟨qcl, qsq, qmck, qmkey, qmok, qmox0, qmos, qmvk, qmvx0, qmvs, ix, ro, ac, e, _⟩ := cells_read0 h
  exact ⟨⟨qcl, qsq, qmck, qmkey, qmok, qmox0, qmos, qmvk, qmvx0, qmvs, ix, ro, ac⟩, e⟩
theorem cells_pair {H : Type} {enc : TypeId × Value → H} {W : World} {fuel : Nat} {cs : List Value} {x : DataW H × List MemPlace} (h : DataW.trod enc Tryd.prog W 0 (fun _ => true) true fuel 66 cs = some x) : ∃ p : ByteArray × Va, cs = prC p ∧ p.1.size ≤ maxLen ∧ p.2.s.size ≤ maxLen ∧ p.2.x < 18446744073709551616 := by
  obtain ⟨key, vk, vx0, vs, e, p0, p1, p2, p3⟩ := cells_pair0 h
  exact ⟨(key, ⟨vk, vx0, vs⟩), e, p0, p3, p2⟩
theorem cells_sess {H : Type} {enc : TypeId × Value → H} {W : World} {fuel : Nat} {cs : List Value} {x : DataW H × List MemPlace} (h : DataW.trod enc Tryd.prog W 0 (fun _ => true) true fuel 83 cs = some x) : ∃ s : Se, cs = s.cells ∧ s.v.s.size ≤ maxLen := by
  obtain ⟨cl, sq, rcode, rvk, rvx0, rvs, e, p0, p1, p2, p3, p4, p5⟩ := cells_sess0 h
  exact ⟨⟨cl, sq, rcode, ⟨rvk, rvx0, rvs⟩⟩, e, p5⟩
theorem cells_hard2 {H : Type} {enc : TypeId × Value → H} {W : World} {fuel : Nat} {cs : List Value} {x : DataW H × List MemPlace} (h : DataW.trod enc Tryd.prog W 0 (fun _ => true) true fuel 29 cs = some x) (hw0 : WOk 29 x.1) :
    ∃ (g : Hd) (S : Option Addr) (sn sc : Nat) (A : Option Addr) (m c : Nat) (sb : List UInt8) (es : List En), cs = g.cells S sn sc A m c ∧ By W W.heap.size S sn sc sb ∧ EnRows W W.heap.size A m c es ∧ es.length = m ∧ (∀ e ∈ es, e.In) ∧ (∀ e ∈ es, e.Str) ∧ In64 g.base ∧ In64 g.term := by
  obtain ⟨xs, n', _, hxe, hl, hxl, hfs⟩ := DataW.trod_struct Tryd.underlying29 h
  rw [s_api_Hard] at hl
  have hxl2 : xs.length = 7 := hxl
  have hw : WOk 29 (.agg (xs.map (·.1))) := by rw [hxe] at hw0; exact hw0
  have f0 : DataW.trod enc Tryd.prog W 0 (fun _ => true) true n' 3 ((cs.drop 0).take (Tryd.prog.cellsOf 3)) = xs[0]? := hfs 0 _ rfl
  rw [List.getElem?_eq_getElem (by omega), s_int] at f0
  have f1 : DataW.trod enc Tryd.prog W 0 (fun _ => true) true n' 3 ((cs.drop 1).take (Tryd.prog.cellsOf 3)) = xs[1]? := hfs 1 _ rfl
  rw [List.getElem?_eq_getElem (by omega), s_int] at f1
  have f2 : DataW.trod enc Tryd.prog W 0 (fun _ => true) true n' 3 ((cs.drop 2).take (Tryd.prog.cellsOf 3)) = xs[2]? := hfs 2 _ rfl
  rw [List.getElem?_eq_getElem (by omega), s_int] at f2
  have f3 : DataW.trod enc Tryd.prog W 0 (fun _ => true) true n' 3 ((cs.drop 3).take (Tryd.prog.cellsOf 3)) = xs[3]? := hfs 3 _ rfl
  rw [List.getElem?_eq_getElem (by omega), s_int] at f3
  have f4 : DataW.trod enc Tryd.prog W 0 (fun _ => true) true n' 25 ((cs.drop 4).take (Tryd.prog.cellsOf 25)) = xs[4]? := hfs 4 _ rfl
  rw [List.getElem?_eq_getElem (by omega), s_api_Conf] at f4
  have f5 : DataW.trod enc Tryd.prog W 0 (fun _ => true) true n' 26 ((cs.drop 8).take (Tryd.prog.cellsOf 26)) = xs[5]? := hfs 5 _ rfl
  rw [List.getElem?_eq_getElem (by omega), s_sl_uint8] at f5
  have f6 : DataW.trod enc Tryd.prog W 0 (fun _ => true) true n' 27 ((cs.drop 9).take (Tryd.prog.cellsOf 27)) = xs[6]? := hfs 6 _ rfl
  rw [List.getElem?_eq_getElem (by omega), s_sl_api_Entry] at f6
  obtain ⟨t, e0, _, ht⟩ := DataW.trod_int Tryd.underlying3 f0
  obtain ⟨v, e1, _, _⟩ := DataW.trod_int Tryd.underlying3 f1
  obtain ⟨b, e2, _, hb⟩ := DataW.trod_int Tryd.underlying3 f2
  obtain ⟨bt, e3, _, _⟩ := DataW.trod_int Tryd.underlying3 f3
  obtain ⟨a1, a2, a3, a4, e4, _⟩ := cells_conf f4
  have hw5 : WOk 26 xs[5].1 := wok_agg Tryd.underlying29 hw (i := 5) rfl (by rw [List.getElem?_map, List.getElem?_eq_getElem (by omega)]; rfl)
  obtain ⟨S, sn, sc, sb, e5, hsb⟩ := cells_bytes f5 hw5
  obtain ⟨A, m, c, es, e6, h1, h2, h3, h4⟩ := cells_ents f6
  refine ⟨⟨t, v, b, bt, a1, a2, a3, a4⟩, S, sn, sc, A, m, c, sb, es, ?_, hsb, h1, h2, h3, h4, law_i64 hb, law_i64 ht⟩
  show cs.drop 0 = _
  rw [cut_at cs (k := 0) (n := 1) (m := 1) rfl, e0, cut_at cs (k := 1) (n := 1) (m := 2) rfl, e1, cut_at cs (k := 2) (n := 1) (m := 3) rfl, e2, cut_at cs (k := 3) (n := 1) (m := 4) rfl, e3, cut_at cs (k := 4) (n := 4) (m := 8) rfl, e4, cut_at cs (k := 8) (n := 1) (m := 9) rfl, e5, cut_at cs (k := 9) (n := 1) (m := 10) rfl, e6, List.drop_eq_nil_of_le (by omega)]
  rfl
set_option maxHeartbeats 1600000 in
theorem cells_raft {H : Type} {enc : TypeId × Value → H} {W : World} {fuel : Nat} {cs : List Value} {x : DataW H × List MemPlace} (h : DataW.trod enc Tryd.prog W 0 (fun _ => true) true fuel 33 cs = some x) (hw0 : WOk 33 x.1) : ∃ p : Rp, cs = p.x ∧ p.Ok W W.heap.size := by
  obtain ⟨xs, n', _, hxe, hl, hxl, hfs⟩ := DataW.trod_struct Tryd.underlying33 h
  rw [s_api_Raft] at hl
  have hxl2 : xs.length = 13 := hxl
  have hw : WOk 33 (.agg (xs.map (·.1))) := by rw [hxe] at hw0; exact hw0
  have f0 : DataW.trod enc Tryd.prog W 0 (fun _ => true) true n' 3 ((cs.drop 0).take (Tryd.prog.cellsOf 3)) = xs[0]? := hfs 0 _ rfl
  rw [List.getElem?_eq_getElem (by omega), s_int] at f0
  have f1 : DataW.trod enc Tryd.prog W 0 (fun _ => true) true n' 29 ((cs.drop 1).take (Tryd.prog.cellsOf 29)) = xs[1]? := hfs 1 _ rfl
  rw [List.getElem?_eq_getElem (by omega), s_api_Hard] at f1
  have f2 : DataW.trod enc Tryd.prog W 0 (fun _ => true) true n' 3 ((cs.drop 11).take (Tryd.prog.cellsOf 3)) = xs[2]? := hfs 2 _ rfl
  rw [List.getElem?_eq_getElem (by omega), s_int] at f2
  have f3 : DataW.trod enc Tryd.prog W 0 (fun _ => true) true n' 3 ((cs.drop 12).take (Tryd.prog.cellsOf 3)) = xs[3]? := hfs 3 _ rfl
  rw [List.getElem?_eq_getElem (by omega), s_int] at f3
  have f4 : DataW.trod enc Tryd.prog W 0 (fun _ => true) true n' 3 ((cs.drop 13).take (Tryd.prog.cellsOf 3)) = xs[4]? := hfs 4 _ rfl
  rw [List.getElem?_eq_getElem (by omega), s_int] at f4
  have f5 : DataW.trod enc Tryd.prog W 0 (fun _ => true) true n' 3 ((cs.drop 14).take (Tryd.prog.cellsOf 3)) = xs[5]? := hfs 5 _ rfl
  rw [List.getElem?_eq_getElem (by omega), s_int] at f5
  have f6 : DataW.trod enc Tryd.prog W 0 (fun _ => true) true n' 3 ((cs.drop 15).take (Tryd.prog.cellsOf 3)) = xs[6]? := hfs 6 _ rfl
  rw [List.getElem?_eq_getElem (by omega), s_int] at f6
  have f7 : DataW.trod enc Tryd.prog W 0 (fun _ => true) true n' 3 ((cs.drop 16).take (Tryd.prog.cellsOf 3)) = xs[7]? := hfs 7 _ rfl
  rw [List.getElem?_eq_getElem (by omega), s_int] at f7
  have f8 : DataW.trod enc Tryd.prog W 0 (fun _ => true) true n' 3 ((cs.drop 17).take (Tryd.prog.cellsOf 3)) = xs[8]? := hfs 8 _ rfl
  rw [List.getElem?_eq_getElem (by omega), s_int] at f8
  have f9 : DataW.trod enc Tryd.prog W 0 (fun _ => true) true n' 30 ((cs.drop 18).take (Tryd.prog.cellsOf 30)) = xs[9]? := hfs 9 _ rfl
  rw [List.getElem?_eq_getElem (by omega), s_a7_int] at f9
  have f10 : DataW.trod enc Tryd.prog W 0 (fun _ => true) true n' 30 ((cs.drop 25).take (Tryd.prog.cellsOf 30)) = xs[10]? := hfs 10 _ rfl
  rw [List.getElem?_eq_getElem (by omega), s_a7_int] at f10
  have f11 : DataW.trod enc Tryd.prog W 0 (fun _ => true) true n' 30 ((cs.drop 32).take (Tryd.prog.cellsOf 30)) = xs[11]? := hfs 11 _ rfl
  rw [List.getElem?_eq_getElem (by omega), s_a7_int] at f11
  have f12 : DataW.trod enc Tryd.prog W 0 (fun _ => true) true n' 31 ((cs.drop 39).take (Tryd.prog.cellsOf 31)) = xs[12]? := hfs 12 _ rfl
  rw [List.getElem?_eq_getElem (by omega), s_sl_api_Read] at f12
  obtain ⟨id, e0, _, h0⟩ := DataW.trod_int Tryd.underlying3 f0
  have hw1 : WOk 29 xs[1].1 := wok_agg Tryd.underlying33 hw (i := 1) rfl (by rw [List.getElem?_map, List.getElem?_eq_getElem (by omega)]; rfl)
  obtain ⟨g, S, sn, sc, A, m, c, sb, es, e1, q1, q2, q3, q4, q5, q6, q7⟩ := cells_hard2 f1 hw1
  obtain ⟨commit, e2, _, h2⟩ := DataW.trod_int Tryd.underlying3 f2
  obtain ⟨role, e3, _, h3⟩ := DataW.trod_int Tryd.underlying3 f3
  obtain ⟨lead, e4, _, h4⟩ := DataW.trod_int Tryd.underlying3 f4
  obtain ⟨wait, e5, _, h5⟩ := DataW.trod_int Tryd.underlying3 f5
  obtain ⟨quiet, e6, _, h6⟩ := DataW.trod_int Tryd.underlying3 f6
  obtain ⟨votes, e7, _, h7⟩ := DataW.trod_int Tryd.underlying3 f7
  obtain ⟨round, e8, _, h8⟩ := DataW.trod_int Tryd.underlying3 f8
  obtain ⟨next, e9⟩ := cells_ints7 f9
  obtain ⟨mat, e10⟩ := cells_ints7 f10
  obtain ⟨silent, e11⟩ := cells_ints7 f11
  have hw12 : WOk 31 xs[12].1 := wok_agg Tryd.underlying33 hw (i := 12) rfl (by rw [List.getElem?_map, List.getElem?_eq_getElem (by omega)]; rfl)
  obtain ⟨R, rn, rc, qs, e12, r1, r2, _, r4⟩ := cells_rows Rq.cells 13 (fun _ => rfl) (by decide) rq0 Tryd.underlying31 s_api_Read (fun _ => True) (fun h _ => by
    obtain ⟨e, he⟩ := cells_read h
    exact ⟨e, he, trivial⟩) f12 hw12
  have hby : Tryd.prog.bytesOf 121 = 128 := by kernel_rfl
  rw [hby] at r4
  have hrb : reachBytes ≤ 140737488355328 := by decide
  refine ⟨⟨⟨id, g, commit, role, lead, wait, quiet, votes, round, next, mat, silent⟩, S, sn, sc, A, m, c, R, rn, rc, sb, es, qs⟩, ?_, q1, q2, q3, q4, q5, r1, r2, Nat.le_trans r4 hrb, law_i64 h0, law_i64 h3, q7, law_i64 h4, law_i64 h2, q6⟩
  show cs.drop 0 = _
  rw [cut_at cs (k := 0) (n := 1) (m := 1) rfl, e0, cut_at cs (k := 1) (n := 10) (m := 11) rfl, e1, cut_at cs (k := 11) (n := 1) (m := 12) rfl, e2, cut_at cs (k := 12) (n := 1) (m := 13) rfl, e3, cut_at cs (k := 13) (n := 1) (m := 14) rfl, e4, cut_at cs (k := 14) (n := 1) (m := 15) rfl, e5, cut_at cs (k := 15) (n := 1) (m := 16) rfl, e6, cut_at cs (k := 16) (n := 1) (m := 17) rfl, e7, cut_at cs (k := 17) (n := 1) (m := 18) rfl, e8, cut_at cs (k := 18) (n := 7) (m := 25) rfl, e9, cut_at cs (k := 25) (n := 7) (m := 32) rfl, e10, cut_at cs (k := 32) (n := 7) (m := 39) rfl, e11, cut_at cs (k := 39) (n := 1) (m := 40) rfl, e12, List.drop_eq_nil_of_le (by omega)]
  rfl
theorem law_rafts {H : Type} {enc : TypeId × Value → H} {W : World} {base : Nat} {v : Value} {d : DataW H} {ps : List MemPlace} (hv : Value.okWide Tryd.prog W .any base 23 v)
    (h : DataW.Trod enc Tryd.prog W 0 (fun _ => true) true 23 v d ps) (hw : WOk 23 d) : ∃ A n cap, ∃ l : List Rp, v = .slice A n cap ∧ RpRows W W.heap.size A n cap l ∧ l.length = n ∧ ∀ p ∈ l, p.Ok W W.heap.size := by
  obtain ⟨a0, len, cap, rfl⟩ := okWide_slice Tryd.underlying23 hv
  obtain ⟨fuel, hf⟩ := h
  obtain ⟨A, m, c, l, h1, h2, h3, h4, _⟩ := cells_rows Rp.x 40 Rp.len (by decide) ⟨⟨0, ⟨0, 0, 0, 0, 0, 0, 0, 0⟩, 0, 0, 0, 0, 0, 0, 0, fun _ => 0, fun _ => 0, fun _ => 0⟩, none, 0, 0, none, 0, 0, none, 0, 0, [], [], []⟩ Tryd.underlying23 s_api_Raft (fun p => p.Ok W W.heap.size) (fun h hw => cells_raft h hw) hf hw
  exact ⟨A, m, c, l, by simpa [Value.cells] using h1, h2, h3, h4⟩
theorem law_machine {H : Type} {enc : TypeId × Value → H} {W : World} {base : Nat} {v : Value} {d : DataW H} {ps : List MemPlace} (hv : Value.okWide Tryd.prog W .any base 44 v)
    (h : DataW.Trod enc Tryd.prog W 0 (fun _ => true) true 44 v d ps) (hw0 : WOk 44 d) :
    ∃ A n c B k e, ∃ (pr : List (ByteArray × Va)) (ss : List Se), v = .agg #[.slice A n c, .slice B k e] ∧ PrRows W W.heap.size A n c pr ∧ pr.length = n ∧ (∀ p ∈ pr, p.1.size ≤ maxLen ∧ p.2.s.size ≤ maxLen) ∧ (∀ p ∈ pr, p.2.x < 18446744073709551616) ∧ SeRows W W.heap.size B k e ss ∧ ss.length = k ∧ ∀ s ∈ ss, s.v.s.size ≤ maxLen := by
  obtain ⟨cs0, rfl, hsz⟩ := okWide_struct Tryd.underlying44 hv
  obtain ⟨fuel, hf⟩ := h
  have hcs : (Value.agg cs0).cells = cs0 := rfl
  rw [hcs] at hf
  obtain ⟨cs, hcse⟩ : ∃ cs, cs0.toList = cs := ⟨_, rfl⟩
  rw [hcse] at hf
  obtain ⟨xs, n', _, hxe, hl, hxl, hfs⟩ := DataW.trod_struct Tryd.underlying44 hf
  rw [s_api_Machine] at hl
  have hxl2 : xs.length = 2 := hxl
  injection hxe with hxe _
  have hw : WOk 44 (.agg (xs.map (·.1))) := by rw [hxe] at hw0; exact hw0
  have f0 : DataW.trod enc Tryd.prog W 0 (fun _ => true) true n' 41 ((cs.drop 0).take (Tryd.prog.cellsOf 41)) = xs[0]? := hfs 0 _ rfl
  rw [List.getElem?_eq_getElem (by omega), s_sl_api_Pair] at f0
  have f1 : DataW.trod enc Tryd.prog W 0 (fun _ => true) true n' 42 ((cs.drop 1).take (Tryd.prog.cellsOf 42)) = xs[1]? := hfs 1 _ rfl
  rw [List.getElem?_eq_getElem (by omega), s_sl_api_Sess] at f1
  have hw1 : WOk 41 xs[0].1 := wok_agg Tryd.underlying44 hw (i := 0) rfl (by rw [List.getElem?_map, List.getElem?_eq_getElem (by omega)]; rfl)
  have hw2 : WOk 42 xs[1].1 := wok_agg Tryd.underlying44 hw (i := 1) rfl (by rw [List.getElem?_map, List.getElem?_eq_getElem (by omega)]; rfl)
  obtain ⟨A, n, c, pr, e0, h1, h2, h3, _⟩ := cells_rows prC 4 (fun _ => rfl) (by decide) p0 Tryd.underlying41 s_api_Pair (fun p => p.1.size ≤ maxLen ∧ p.2.s.size ≤ maxLen ∧ p.2.x < 18446744073709551616) (fun h _ => cells_pair h) f0 hw1
  obtain ⟨B, k, e, ss, e1, g1, g2, g3, _⟩ := cells_rows Se.cells 6 (fun _ => rfl) (by decide) se0 Tryd.underlying42 s_api_Sess (fun s => s.v.s.size ≤ maxLen) (fun h _ => cells_sess h) f1 hw2
  refine ⟨A, n, c, B, k, e, pr, ss, ?_, h1, h2, fun p hp => ⟨(h3 p hp).1, (h3 p hp).2.1⟩, fun p hp => (h3 p hp).2.2, g1, g2, g3⟩
  have hq : cs.drop 0 = [.slice A n c, .slice B k e] := by
    rw [cut_at cs (k := 0) (n := 1) (m := 1) rfl, e0, cut_at cs (k := 1) (n := 1) (m := 2) rfl, e1, List.drop_eq_nil_of_le (by omega)]
    rfl
  rw [← Array.toArray_toList (xs := cs0), hcse]
  rw [List.drop_zero] at hq
  rw [hq]
end Go.Proofs.YtkckncggiicciaaDoor
