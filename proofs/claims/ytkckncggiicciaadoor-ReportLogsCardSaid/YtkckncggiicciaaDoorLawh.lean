/-
  A log that came in; written by genlawh.py.
-/
import Derived.Test.YtkckncggiicciaaDoorLawi
import Derived.Test.YtkckncggiicciaaDoorRlogsw
namespace Go.Proofs.YtkckncggiicciaaDoor
open Go.RowKit Go.ChangeShapes Go.WideShapes Go.ChangeAt
set_option maxRecDepth 100000
theorem cut_at {α : Type} (cs : List α) {k n m : Nat} (h : k + n = m) : cs.drop k = (cs.drop k).take n ++ cs.drop m := by
  subst h
  rw [← List.drop_drop]
  exact (List.take_append_drop n _).symm
theorem s_int : Tryd.prog.cellsOf 3 = 1 := by kernel_rfl
theorem s_string : Tryd.prog.cellsOf 9 = 1 := by kernel_rfl
theorem s_float64 : Tryd.prog.cellsOf 35 = 1 := by kernel_rfl
theorem s_sl_uint8 : Tryd.prog.cellsOf 26 = 1 := by kernel_rfl
theorem s_sl_api_Entry : Tryd.prog.cellsOf 27 = 1 := by kernel_rfl
theorem s_api_Value : Tryd.prog.cellsOf 56 = 3 := by kernel_rfl
theorem s_api_Conf : Tryd.prog.cellsOf 25 = 4 := by kernel_rfl
theorem s_api_Cmd : Tryd.prog.cellsOf 60 = 8 := by kernel_rfl
theorem s_api_Call : Tryd.prog.cellsOf 62 = 10 := by kernel_rfl
theorem s_api_Entry : Tryd.prog.cellsOf 64 = 16 := by kernel_rfl
theorem s_api_Hard : Tryd.prog.cellsOf 29 = 10 := by kernel_rfl
theorem cells_va {H : Type} {enc : TypeId × Value → H} {W : World} {fuel : Nat} {cs : List Value} {x : DataW H × List MemPlace} (h : DataW.trod enc Tryd.prog W 0 (fun _ => true) true fuel 56 cs = some x) :
    ∃ (k : Int) (x0 : Nat) (s : ByteArray), cs = [.int .i64 k, .float .f64 x0, .string s] ∧ In64 k ∧ x0 < 18446744073709551616 ∧ s.size ≤ maxLen := by
  obtain ⟨xs, n', _, _, hl, hxl, hfs⟩ := DataW.trod_struct Tryd.underlying56 h
  rw [s_api_Value] at hl
  have hxl2 : xs.length = 3 := hxl
  have f0 : DataW.trod enc Tryd.prog W 0 (fun _ => true) true n' 3 ((cs.drop 0).take (Tryd.prog.cellsOf 3)) = xs[0]? := hfs 0 _ rfl
  rw [List.getElem?_eq_getElem (by omega), s_int] at f0
  have f1 : DataW.trod enc Tryd.prog W 0 (fun _ => true) true n' 35 ((cs.drop 1).take (Tryd.prog.cellsOf 35)) = xs[1]? := hfs 1 _ rfl
  rw [List.getElem?_eq_getElem (by omega), s_float64] at f1
  have f2 : DataW.trod enc Tryd.prog W 0 (fun _ => true) true n' 9 ((cs.drop 2).take (Tryd.prog.cellsOf 9)) = xs[2]? := hfs 2 _ rfl
  rw [List.getElem?_eq_getElem (by omega), s_string] at f2
  obtain ⟨k, e0, _, hk⟩ := DataW.trod_int Tryd.underlying3 f0
  obtain ⟨x0, e1, hx0⟩ := trod_float f1
  obtain ⟨s, e2, _, hs⟩ := DataW.trod_string Tryd.underlying9 f2
  refine ⟨k, x0, s, ?_, law_i64 hk, hx0, hs⟩
  show cs.drop 0 = _
  rw [cut_at cs (k := 0) (n := 1) (m := 1) rfl, e0, cut_at cs (k := 1) (n := 1) (m := 2) rfl, e1, cut_at cs (k := 2) (n := 1) (m := 3) rfl, e2, List.drop_eq_nil_of_le (by omega)]
  rfl
theorem cells_conf {H : Type} {enc : TypeId × Value → H} {W : World} {fuel : Nat} {cs : List Value} {x : DataW H × List MemPlace} (h : DataW.trod enc Tryd.prog W 0 (fun _ => true) true fuel 25 cs = some x) :
    ∃ (a : Int) (b : Int) (c : Int) (d : Int), cs = [.int .i64 a, .int .i64 b, .int .i64 c, .int .i64 d] ∧ In64 a ∧ In64 b ∧ In64 c ∧ In64 d := by
  obtain ⟨xs, n', _, _, hl, hxl, hfs⟩ := DataW.trod_struct Tryd.underlying25 h
  rw [s_api_Conf] at hl
  have hxl2 : xs.length = 4 := hxl
  have f0 : DataW.trod enc Tryd.prog W 0 (fun _ => true) true n' 3 ((cs.drop 0).take (Tryd.prog.cellsOf 3)) = xs[0]? := hfs 0 _ rfl
  rw [List.getElem?_eq_getElem (by omega), s_int] at f0
  have f1 : DataW.trod enc Tryd.prog W 0 (fun _ => true) true n' 3 ((cs.drop 1).take (Tryd.prog.cellsOf 3)) = xs[1]? := hfs 1 _ rfl
  rw [List.getElem?_eq_getElem (by omega), s_int] at f1
  have f2 : DataW.trod enc Tryd.prog W 0 (fun _ => true) true n' 3 ((cs.drop 2).take (Tryd.prog.cellsOf 3)) = xs[2]? := hfs 2 _ rfl
  rw [List.getElem?_eq_getElem (by omega), s_int] at f2
  have f3 : DataW.trod enc Tryd.prog W 0 (fun _ => true) true n' 3 ((cs.drop 3).take (Tryd.prog.cellsOf 3)) = xs[3]? := hfs 3 _ rfl
  rw [List.getElem?_eq_getElem (by omega), s_int] at f3
  obtain ⟨a, e0, _, ha⟩ := DataW.trod_int Tryd.underlying3 f0
  obtain ⟨b, e1, _, hb⟩ := DataW.trod_int Tryd.underlying3 f1
  obtain ⟨c, e2, _, hc⟩ := DataW.trod_int Tryd.underlying3 f2
  obtain ⟨d, e3, _, hd⟩ := DataW.trod_int Tryd.underlying3 f3
  refine ⟨a, b, c, d, ?_, law_i64 ha, law_i64 hb, law_i64 hc, law_i64 hd⟩
  show cs.drop 0 = _
  rw [cut_at cs (k := 0) (n := 1) (m := 1) rfl, e0, cut_at cs (k := 1) (n := 1) (m := 2) rfl, e1, cut_at cs (k := 2) (n := 1) (m := 3) rfl, e2, cut_at cs (k := 3) (n := 1) (m := 4) rfl, e3, List.drop_eq_nil_of_le (by omega)]
  rfl
theorem cells_cmd {H : Type} {enc : TypeId × Value → H} {W : World} {fuel : Nat} {cs : List Value} {x : DataW H × List MemPlace} (h : DataW.trod enc Tryd.prog W 0 (fun _ => true) true fuel 60 cs = some x) :
    ∃ (ck : Int) (key : ByteArray) (ok : Int) (ox0 : Nat) (os : ByteArray) (vk : Int) (vx0 : Nat) (vs : ByteArray), cs = [.int .i64 ck, .string key, .int .i64 ok, .float .f64 ox0, .string os, .int .i64 vk, .float .f64 vx0, .string vs] ∧ In64 ck ∧ key.size ≤ maxLen ∧ In64 ok ∧ ox0 < 18446744073709551616 ∧ os.size ≤ maxLen ∧ In64 vk ∧ vx0 < 18446744073709551616 ∧ vs.size ≤ maxLen := by
  obtain ⟨xs, n', _, _, hl, hxl, hfs⟩ := DataW.trod_struct Tryd.underlying60 h
  rw [s_api_Cmd] at hl
  have hxl2 : xs.length = 4 := hxl
  have f0 : DataW.trod enc Tryd.prog W 0 (fun _ => true) true n' 3 ((cs.drop 0).take (Tryd.prog.cellsOf 3)) = xs[0]? := hfs 0 _ rfl
  rw [List.getElem?_eq_getElem (by omega), s_int] at f0
  have f1 : DataW.trod enc Tryd.prog W 0 (fun _ => true) true n' 9 ((cs.drop 1).take (Tryd.prog.cellsOf 9)) = xs[1]? := hfs 1 _ rfl
  rw [List.getElem?_eq_getElem (by omega), s_string] at f1
  have f2 : DataW.trod enc Tryd.prog W 0 (fun _ => true) true n' 56 ((cs.drop 2).take (Tryd.prog.cellsOf 56)) = xs[2]? := hfs 2 _ rfl
  rw [List.getElem?_eq_getElem (by omega), s_api_Value] at f2
  have f3 : DataW.trod enc Tryd.prog W 0 (fun _ => true) true n' 56 ((cs.drop 5).take (Tryd.prog.cellsOf 56)) = xs[3]? := hfs 3 _ rfl
  rw [List.getElem?_eq_getElem (by omega), s_api_Value] at f3
  obtain ⟨ck, e0, _, hck⟩ := DataW.trod_int Tryd.underlying3 f0
  obtain ⟨key, e1, _, hkey⟩ := DataW.trod_string Tryd.underlying9 f1
  obtain ⟨ok, ox0, os, e2, p2_0, p2_1, p2_2⟩ := cells_va f2
  obtain ⟨vk, vx0, vs, e3, p3_0, p3_1, p3_2⟩ := cells_va f3
  refine ⟨ck, key, ok, ox0, os, vk, vx0, vs, ?_, law_i64 hck, hkey, p2_0, p2_1, p2_2, p3_0, p3_1, p3_2⟩
  show cs.drop 0 = _
  rw [cut_at cs (k := 0) (n := 1) (m := 1) rfl, e0, cut_at cs (k := 1) (n := 1) (m := 2) rfl, e1, cut_at cs (k := 2) (n := 3) (m := 5) rfl, e2, cut_at cs (k := 5) (n := 3) (m := 8) rfl, e3, List.drop_eq_nil_of_le (by omega)]
  rfl
theorem cells_call {H : Type} {enc : TypeId × Value → H} {W : World} {fuel : Nat} {cs : List Value} {x : DataW H × List MemPlace} (h : DataW.trod enc Tryd.prog W 0 (fun _ => true) true fuel 62 cs = some x) :
    ∃ (cl : Int) (sq : Int) (mck : Int) (mkey : ByteArray) (mok : Int) (mox0 : Nat) (mos : ByteArray) (mvk : Int) (mvx0 : Nat) (mvs : ByteArray), cs = [.int .i64 cl, .int .i64 sq, .int .i64 mck, .string mkey, .int .i64 mok, .float .f64 mox0, .string mos, .int .i64 mvk, .float .f64 mvx0, .string mvs] ∧ In64 cl ∧ In64 sq ∧ In64 mck ∧ mkey.size ≤ maxLen ∧ In64 mok ∧ mox0 < 18446744073709551616 ∧ mos.size ≤ maxLen ∧ In64 mvk ∧ mvx0 < 18446744073709551616 ∧ mvs.size ≤ maxLen := by
  obtain ⟨xs, n', _, _, hl, hxl, hfs⟩ := DataW.trod_struct Tryd.underlying62 h
  rw [s_api_Call] at hl
  have hxl2 : xs.length = 3 := hxl
  have f0 : DataW.trod enc Tryd.prog W 0 (fun _ => true) true n' 3 ((cs.drop 0).take (Tryd.prog.cellsOf 3)) = xs[0]? := hfs 0 _ rfl
  rw [List.getElem?_eq_getElem (by omega), s_int] at f0
  have f1 : DataW.trod enc Tryd.prog W 0 (fun _ => true) true n' 3 ((cs.drop 1).take (Tryd.prog.cellsOf 3)) = xs[1]? := hfs 1 _ rfl
  rw [List.getElem?_eq_getElem (by omega), s_int] at f1
  have f2 : DataW.trod enc Tryd.prog W 0 (fun _ => true) true n' 60 ((cs.drop 2).take (Tryd.prog.cellsOf 60)) = xs[2]? := hfs 2 _ rfl
  rw [List.getElem?_eq_getElem (by omega), s_api_Cmd] at f2
  obtain ⟨cl, e0, _, hcl⟩ := DataW.trod_int Tryd.underlying3 f0
  obtain ⟨sq, e1, _, hsq⟩ := DataW.trod_int Tryd.underlying3 f1
  obtain ⟨mck, mkey, mok, mox0, mos, mvk, mvx0, mvs, e2, p2_0, p2_1, p2_2, p2_3, p2_4, p2_5, p2_6, p2_7⟩ := cells_cmd f2
  refine ⟨cl, sq, mck, mkey, mok, mox0, mos, mvk, mvx0, mvs, ?_, law_i64 hcl, law_i64 hsq, p2_0, p2_1, p2_2, p2_3, p2_4, p2_5, p2_6, p2_7⟩
  show cs.drop 0 = _
  rw [cut_at cs (k := 0) (n := 1) (m := 1) rfl, e0, cut_at cs (k := 1) (n := 1) (m := 2) rfl, e1, cut_at cs (k := 2) (n := 8) (m := 10) rfl, e2, List.drop_eq_nil_of_le (by omega)]
  rfl
theorem cells_ent0 {H : Type} {enc : TypeId × Value → H} {W : World} {fuel : Nat} {cs : List Value} {x : DataW H × List MemPlace} (h : DataW.trod enc Tryd.prog W 0 (fun _ => true) true fuel 64 cs = some x) :
    ∃ (term : Int) (kind : Int) (qcl : Int) (qsq : Int) (qmck : Int) (qmkey : ByteArray) (qmok : Int) (qmox0 : Nat) (qmos : ByteArray) (qmvk : Int) (qmvx0 : Nat) (qmvs : ByteArray) (ga : Int) (gb : Int) (gc : Int) (gd : Int), cs = [.int .i64 term, .int .i64 kind, .int .i64 qcl, .int .i64 qsq, .int .i64 qmck, .string qmkey, .int .i64 qmok, .float .f64 qmox0, .string qmos, .int .i64 qmvk, .float .f64 qmvx0, .string qmvs, .int .i64 ga, .int .i64 gb, .int .i64 gc, .int .i64 gd] ∧ In64 term ∧ In64 kind ∧ In64 qcl ∧ In64 qsq ∧ In64 qmck ∧ qmkey.size ≤ maxLen ∧ In64 qmok ∧ qmox0 < 18446744073709551616 ∧ qmos.size ≤ maxLen ∧ In64 qmvk ∧ qmvx0 < 18446744073709551616 ∧ qmvs.size ≤ maxLen ∧ In64 ga ∧ In64 gb ∧ In64 gc ∧ In64 gd := by
  obtain ⟨xs, n', _, _, hl, hxl, hfs⟩ := DataW.trod_struct Tryd.underlying64 h
  rw [s_api_Entry] at hl
  have hxl2 : xs.length = 4 := hxl
  have f0 : DataW.trod enc Tryd.prog W 0 (fun _ => true) true n' 3 ((cs.drop 0).take (Tryd.prog.cellsOf 3)) = xs[0]? := hfs 0 _ rfl
  rw [List.getElem?_eq_getElem (by omega), s_int] at f0
  have f1 : DataW.trod enc Tryd.prog W 0 (fun _ => true) true n' 3 ((cs.drop 1).take (Tryd.prog.cellsOf 3)) = xs[1]? := hfs 1 _ rfl
  rw [List.getElem?_eq_getElem (by omega), s_int] at f1
  have f2 : DataW.trod enc Tryd.prog W 0 (fun _ => true) true n' 62 ((cs.drop 2).take (Tryd.prog.cellsOf 62)) = xs[2]? := hfs 2 _ rfl
  rw [List.getElem?_eq_getElem (by omega), s_api_Call] at f2
  have f3 : DataW.trod enc Tryd.prog W 0 (fun _ => true) true n' 25 ((cs.drop 12).take (Tryd.prog.cellsOf 25)) = xs[3]? := hfs 3 _ rfl
  rw [List.getElem?_eq_getElem (by omega), s_api_Conf] at f3
  obtain ⟨term, e0, _, hterm⟩ := DataW.trod_int Tryd.underlying3 f0
  obtain ⟨kind, e1, _, hkind⟩ := DataW.trod_int Tryd.underlying3 f1
  obtain ⟨qcl, qsq, qmck, qmkey, qmok, qmox0, qmos, qmvk, qmvx0, qmvs, e2, p2_0, p2_1, p2_2, p2_3, p2_4, p2_5, p2_6, p2_7, p2_8, p2_9⟩ := cells_call f2
  obtain ⟨ga, gb, gc, gd, e3, p3_0, p3_1, p3_2, p3_3⟩ := cells_conf f3
  refine ⟨term, kind, qcl, qsq, qmck, qmkey, qmok, qmox0, qmos, qmvk, qmvx0, qmvs, ga, gb, gc, gd, ?_, law_i64 hterm, law_i64 hkind, p2_0, p2_1, p2_2, p2_3, p2_4, p2_5, p2_6, p2_7, p2_8, p2_9, p3_0, p3_1, p3_2, p3_3⟩
  show cs.drop 0 = _
  rw [cut_at cs (k := 0) (n := 1) (m := 1) rfl, e0, cut_at cs (k := 1) (n := 1) (m := 2) rfl, e1, cut_at cs (k := 2) (n := 10) (m := 12) rfl, e2, cut_at cs (k := 12) (n := 4) (m := 16) rfl, e3, List.drop_eq_nil_of_le (by omega)]
  rfl
theorem cells_ent {H : Type} {enc : TypeId × Value → H} {W : World} {fuel : Nat} {cs : List Value} {x : DataW H × List MemPlace} (h : DataW.trod enc Tryd.prog W 0 (fun _ => true) true fuel 64 cs = some x) : ∃ e : En, cs = e.cells ∧ e.In ∧ e.Str := by
  obtain ⟨term, kind, qcl, qsq, qmck, qmkey, qmok, qmox0, qmos, qmvk, qmvx0, qmvs, ga, gb, gc, gd, e, p0, p1, p2, p3, p4, p5, p6, p7, p8, p9, p10, p11, p12, p13, p14, p15⟩ := cells_ent0 h
  exact ⟨⟨term, kind, qcl, qsq, qmck, qmkey, ⟨qmok, qmox0, qmos⟩, ⟨qmvk, qmvx0, qmvs⟩, ga, gb, gc, gd⟩, e, ⟨p0, p2, p3, p12, p13, p14, p15⟩, ⟨p5, p8, p11⟩⟩
theorem flat_len (es : List En) : (es.map En.cells).flatten.length = es.length * 16 := by
  induction es with
  | nil => rfl
  | cons e r ih => rw [List.map_cons, List.flatten_cons, List.length_append, ih, e.cells_len, List.length_cons]; omega
theorem flat_get (es : List En) : ∀ (i j : Nat) (e : En), j < 16 → es[i]? = some e → (es.map En.cells).flatten[i * 16 + j]? = e.cells[j]? := by
  induction es with
  | nil => intro i j e _ h; simp at h
  | cons a r ih =>
    intro i j e hj h
    rw [List.map_cons, List.flatten_cons]
    cases i with
    | zero =>
      simp at h
      subst h
      rw [Nat.zero_mul, Nat.zero_add, List.getElem?_append_left (by rw [a.cells_len]; exact hj)]
    | succ i =>
      rw [List.getElem?_append_right (by rw [a.cells_len]; omega), a.cells_len, show (i + 1) * 16 + j - 16 = i * 16 + j by omega]
      exact ih i j e hj (by simpa using h)
theorem cells_ents {H : Type} {enc : TypeId × Value → H} {W : World} {fuel : Nat} {cs : List Value} {x : DataW H × List MemPlace} (hf : DataW.trod enc Tryd.prog W 0 (fun _ => true) true fuel 27 cs = some x) :
    ∃ A m c es, cs = [.slice A m c] ∧ EnRows W W.heap.size A m c es ∧ es.length = m ∧ (∀ e ∈ es, e.In) ∧ (∀ e ∈ es, e.Str) := by
  rcases DataW.trod_slice Tryd.underlying27 hf with ⟨hcs, _⟩ | ⟨a, len, cap, elems, rest, fl, _, hcs, _, _, hl, hm, hel, hat, _, _⟩
  · exact ⟨none, 0, 0, [], hcs, Rd.nil _ _ _, rfl, by simp, by simp⟩
  · have each : ∀ i, i < len → ∃ e : En, e.In ∧ e.Str ∧ ∀ j, j < 16 → ∃ u, e.cells[j]? = some u ∧ W.cell? ((a.add (i * 16)).add j) = some u := by
      intro i hi
      have h1 := hat i hi
      rw [s_api_Entry, List.getElem?_eq_getElem (by omega), Option.bind_eq_some_iff] at h1
      obtain ⟨cs', h2, h3⟩ := h1
      obtain ⟨_, hlen, hcell⟩ := World.cells?_some h2
      obtain ⟨e, rfl, h4, h5⟩ := cells_ent h3
      refine ⟨e, h4, h5, fun j hj => ?_⟩
      have hj' : j < e.cells.length := hj
      exact ⟨e.cells[j], List.getElem?_eq_getElem hj', by rw [hcell j hj, List.getElem?_eq_getElem hj']⟩
    by_cases h0 : 0 < len
    · obtain ⟨_, _, _, hu0⟩ := each 0 h0
      obtain ⟨_, _, hu0⟩ := hu0 0 (by decide)
      obtain ⟨b, off, spot⟩ := a
      have hspot : spot = none := by simpa [Addr.add] using World.cell?_spot hu0
      subst hspot
      have hblt : b < W.heap.size := World.block_lt_of_cell? _ _ (by simpa [Addr.add] using hu0)
      obtain ⟨es, hes⟩ : ∃ es : List En, es = (List.range len).map fun i => if h : i < len then Classical.choose (each i h) else e0 := ⟨_, rfl⟩
      have hel2 : es.length = len := by rw [hes]; simp
      have hget : ∀ i e, es[i]? = some e → i < len ∧ e.In ∧ e.Str ∧ ∀ j, j < 16 → ∃ u, e.cells[j]? = some u ∧ W.cell? ⟨b, off + i * 16 + j, none⟩ = some u := fun i e he => by
        have hi : i < len := by have := (List.getElem?_eq_some_iff.1 he).1; omega
        rw [hes] at he
        simp [hi] at he
        have hs := Classical.choose_spec (each i hi)
        rw [he] at hs
        refine ⟨hi, hs.1, hs.2.1, fun j hj => ?_⟩
        obtain ⟨u, h1, h2⟩ := hs.2.2 j hj
        rw [addr_add, addr_add] at h2
        exact ⟨u, h1, h2⟩
      have hmem : ∀ e ∈ es, e.In ∧ e.Str := fun e he => by
        obtain ⟨i, hi⟩ := List.getElem?_of_mem he
        obtain ⟨_, h1, h2, _⟩ := hget i e hi
        exact ⟨h1, h2⟩
      have hfl : (es.map En.cells).flatten.length = len * 16 := by
        rw [← hel2]
        exact flat_len es
      refine ⟨_, _, _, es, hcs, ⟨hfl, hl, hm, fun _ => ⟨b, off, rfl, hblt, fun j u hu => ?_⟩⟩, hel2, fun e he => (hmem e he).1, fun e he => (hmem e he).2⟩
      have hj : j < len * 16 := by have := (List.getElem?_eq_some_iff.1 hu).1; omega
      obtain ⟨e, he⟩ : ∃ e, es[j / 16]? = some e := ⟨_, List.getElem?_eq_getElem (by omega)⟩
      obtain ⟨_, _, _, h3⟩ := hget _ e he
      obtain ⟨u', h4, h5⟩ := h3 (j % 16) (by omega)
      have h6 := flat_get es (j / 16) (j % 16) e (by omega) he
      rw [show j / 16 * 16 + j % 16 = j by omega, hu, h4] at h6
      injection h6 with h6
      subst h6
      rw [← h5]
      congr 2
      omega
    · obtain rfl : len = 0 := by omega
      exact ⟨_, _, _, [], hcs, ⟨rfl, hl, hm, fun h => by omega⟩, rfl, by simp, by simp⟩
theorem cells_bslice {H : Type} {enc : TypeId × Value → H} {W : World} {fuel : Nat} {cs : List Value} {x : DataW H × List MemPlace} (hf : DataW.trod enc Tryd.prog W 0 (fun _ => true) true fuel 26 cs = some x) : ∃ A n c, cs = [.slice A n c] := by
  rcases DataW.trod_slice Tryd.underlying26 hf with ⟨hcs, _⟩ | ⟨a, len, cap, elems, rest, fl, _, hcs, _⟩
  · exact ⟨_, _, _, hcs⟩
  · exact ⟨_, _, _, hcs⟩
theorem cells_hard {H : Type} {enc : TypeId × Value → H} {W : World} {fuel : Nat} {cs : List Value} {x : DataW H × List MemPlace} (h : DataW.trod enc Tryd.prog W 0 (fun _ => true) true fuel 29 cs = some x) :
    ∃ (g : Hd) (S : Option Addr) (sn sc : Nat) (A : Option Addr) (m c : Nat) (es : List En), cs = g.cells S sn sc A m c ∧ EnRows W W.heap.size A m c es ∧ es.length = m ∧ (∀ e ∈ es, e.In) ∧ (∀ e ∈ es, e.Str) ∧ In64 g.base := by
  obtain ⟨xs, n', _, _, hl, hxl, hfs⟩ := DataW.trod_struct Tryd.underlying29 h
  rw [s_api_Hard] at hl
  have hxl2 : xs.length = 7 := hxl
  have f0 : DataW.trod enc Tryd.prog W 0 (fun _ => true) true n' 3 ((cs.drop 0).take (Tryd.prog.cellsOf 3)) = xs[0]? := hfs 0 _ rfl
  rw [List.getElem?_eq_getElem (by omega), s_int] at f0
  have f1 : DataW.trod enc Tryd.prog W 0 (fun _ => true) true n' 3 ((cs.drop 1).take (Tryd.prog.cellsOf 3)) = xs[1]? := hfs 1 _ rfl
  rw [List.getElem?_eq_getElem (by omega), s_int] at f1
  have f2 : DataW.trod enc Tryd.prog W 0 (fun _ => true) true n' 3 ((cs.drop 2).take (Tryd.prog.cellsOf 3)) = xs[2]? := hfs 2 _ rfl
  rw [List.getElem?_eq_getElem (by omega), s_int] at f2
  have f3 : DataW.trod enc Tryd.prog W 0 (fun _ => true) true n' 3 ((cs.drop 3).take (Tryd.prog.cellsOf 3)) = xs[3]? := hfs 3 _ rfl
  rw [List.getElem?_eq_getElem (by omega), s_int] at f3
  have f4 : DataW.trod enc Tryd.prog W 0 (fun _ => true) true n' 25 ((cs.drop 4).take (Tryd.prog.cellsOf 25)) = xs[4]? := hfs 4 _ rfl
  rw [List.getElem?_eq_getElem (by omega), s_api_Conf] at f4
  have f5 : DataW.trod enc Tryd.prog W 0 (fun _ => true) true n' 26 ((cs.drop 8).take (Tryd.prog.cellsOf 26)) = xs[5]? := hfs 5 _ rfl
  rw [List.getElem?_eq_getElem (by omega), s_sl_uint8] at f5
  have f6 : DataW.trod enc Tryd.prog W 0 (fun _ => true) true n' 27 ((cs.drop 9).take (Tryd.prog.cellsOf 27)) = xs[6]? := hfs 6 _ rfl
  rw [List.getElem?_eq_getElem (by omega), s_sl_api_Entry] at f6
  obtain ⟨t, e0, _, _⟩ := DataW.trod_int Tryd.underlying3 f0
  obtain ⟨v, e1, _, _⟩ := DataW.trod_int Tryd.underlying3 f1
  obtain ⟨b, e2, _, hb⟩ := DataW.trod_int Tryd.underlying3 f2
  obtain ⟨bt, e3, _, _⟩ := DataW.trod_int Tryd.underlying3 f3
  obtain ⟨a1, a2, a3, a4, e4, _⟩ := cells_conf f4
  obtain ⟨S, sn, sc, e5⟩ := cells_bslice f5
  obtain ⟨A, m, c, es, e6, h1, h2, h3, h4⟩ := cells_ents f6
  refine ⟨⟨t, v, b, bt, a1, a2, a3, a4⟩, S, sn, sc, A, m, c, es, ?_, h1, h2, h3, h4, law_i64 hb⟩
  show cs.drop 0 = _
  rw [cut_at cs (k := 0) (n := 1) (m := 1) rfl, e0, cut_at cs (k := 1) (n := 1) (m := 2) rfl, e1, cut_at cs (k := 2) (n := 1) (m := 3) rfl, e2, cut_at cs (k := 3) (n := 1) (m := 4) rfl, e3, cut_at cs (k := 4) (n := 4) (m := 8) rfl, e4, cut_at cs (k := 8) (n := 1) (m := 9) rfl, e5, cut_at cs (k := 9) (n := 1) (m := 10) rfl, e6, List.drop_eq_nil_of_le (by omega)]
  rfl
theorem law_hard {H : Type} {enc : TypeId × Value → H} {W : World} {base : Nat} {v : Value} {d : DataW H} {ps : List MemPlace} (hv : Value.okWide Tryd.prog W .any base 29 v)
    (h : DataW.Trod enc Tryd.prog W 0 (fun _ => true) true 29 v d ps) :
    ∃ (g : Hd) (S : Option Addr) (sn sc : Nat) (A : Option Addr) (m c : Nat) (es : List En), v = .agg #[.int .i64 g.term, .int .i64 g.vote, .int .i64 g.base, .int .i64 g.bt, .int .i64 g.full, .int .i64 g.wit, .int .i64 g.learn, .int .i64 g.lw, .slice S sn sc, .slice A m c] ∧ EnRows W W.heap.size A m c es ∧ es.length = m ∧ (∀ e ∈ es, e.In) ∧ (∀ e ∈ es, e.Str) ∧ In64 g.base := by
  obtain ⟨cs, rfl, hsz⟩ := okWide_struct Tryd.underlying29 hv
  obtain ⟨fuel, hf⟩ := h
  have hcs : (Value.agg cs).cells = cs := rfl
  rw [hcs] at hf
  obtain ⟨g, S, sn, sc, A, m, c, es, e, h1⟩ := cells_hard hf
  exact ⟨g, S, sn, sc, A, m, c, es, by rw [← Array.toArray_toList (xs := cs), e]; rfl, h1⟩
theorem law_val {H : Type} {enc : TypeId × Value → H} {W : World} {base : Nat} {v : Value} {d : DataW H} {ps : List MemPlace} (hv : Value.okWide Tryd.prog W .any base 56 v)
    (h : DataW.Trod enc Tryd.prog W 0 (fun _ => true) true 56 v d ps) : ∃ a : Va, v = .agg #[.int .i64 a.k, .float .f64 a.x, .string a.s] ∧ In64 a.k ∧ a.x < 18446744073709551616 ∧ a.s.size ≤ maxLen := by
  obtain ⟨cs, rfl, hsz⟩ := okWide_struct Tryd.underlying56 hv
  obtain ⟨fuel, hf⟩ := h
  have hcs : (Value.agg cs).cells = cs := rfl
  rw [hcs] at hf
  obtain ⟨k, m, s, e, hk, hm, hz⟩ := cells_va hf
  exact ⟨⟨k, m, s⟩, by rw [← Array.toArray_toList (xs := cs), e], hk, hm, hz⟩
end Go.Proofs.YtkckncggiicciaaDoor
