/- The disk: Read (32). -/
import Derived.Test.YtkdphgcbecldbaaDevZ
namespace Go.Proofs.Ytkdphgcbecldbaa
open Go.RowKit
attribute [local go_sem ↓] wp_ld93 wp_st93
set_option maxRecDepth 100000 in
set_option maxHeartbeats 1000000 in
theorem read_down (D : Dk) (n : Int) (w : World) (h : Dsk w D) (hd : D.dn = true) :
    Calls Try.prog 32 #[.pointer (some ⟨D.d, 0, none⟩), .int .i64 n] w fun r w' => r = .returned (.tuple #[.slice none 0 0, .int .i64 11]) ∧ Gr w w' := by
  have HH := Lib.hid h
  have Hd := Lib.hid hd
  clear h hd
  by_cases hn : n < 0 ∨ (D.k : Int) ≤ n
  · have HN := Lib.hid hn
    clear hn
    go_enter Try.func32, Try.ntmps32
    go_wp2_with fail
    refine (up_no D _ HH.out Hd.out).mono ?_
    rintro e w1 ⟨rfl, rfl⟩
    go_wp2_with fail
    refine (there_no D n _ HH.out HN.out).mono ?_
    rintro e w1 ⟨rfl, rfl⟩
    go_wp2_with fail
    refine (first_nn _ _ 11 n 2 (heap_alloc_new w _)).mono ?_
    rintro e w1 ⟨rfl, rfl⟩
    have HG := Lib.hid (Gr.at_alloc w (.cells #[.iface 89 (.int .i64 11), .iface 91 (.agg #[.int .i64 n, .iface 89 (.int .i64 2)])] 70))
    generalize w.alloc (.cells #[.iface 89 (.int .i64 11), .iface 91 (.agg #[.int .i64 n, .iface 89 (.int .i64 2)])] 70) = W at *
    go_wp2_with fail
    refine (told_cd 11 _ (by omega)).mono ?_
    rintro e w2 ⟨rfl, hg⟩
    go_wp2_with fail
    refine bodyPost_ret (results_tmp2 rfl _ _ _) rfl ?_
    exact ⟨rfl, Gr.step hg HG.out⟩
  · have h0 : 0 ≤ n := by omega
    have h1 : n < D.k := by omega
    clear hn
    go_enter Try.func32, Try.ntmps32
    go_wp2_with fail
    refine (up_no D _ HH.out Hd.out).mono ?_
    rintro e w1 ⟨rfl, rfl⟩
    go_wp2_with fail
    refine (there_ok D n _ HH.out h0 h1).mono ?_
    rintro e w1 ⟨rfl, rfl⟩
    go_wp2_with fail
    refine (first_no _ _ 11 (heap_alloc_new w _)).mono ?_
    rintro e w1 ⟨rfl, rfl⟩
    have HG := Lib.hid (Gr.at_alloc w (.cells #[.iface 89 (.int .i64 11), .nilIface] 70))
    generalize w.alloc (.cells #[.iface 89 (.int .i64 11), .nilIface] 70) = W at *
    go_wp2_with fail
    refine (told_cd 11 _ (by omega)).mono ?_
    rintro e w2 ⟨rfl, hg⟩
    go_wp2_with fail
    refine bodyPost_ret (results_tmp2 rfl _ _ _) rfl ?_
    exact ⟨rfl, Gr.step hg HG.out⟩
set_option maxRecDepth 100000 in
set_option maxHeartbeats 1000000 in
theorem read_out (D : Dk) (n : Int) (w : World) (h : Dsk w D) (hd : D.dn = false) (hn : n < 0 ∨ (D.k : Int) ≤ n) :
    Calls Try.prog 32 #[.pointer (some ⟨D.d, 0, none⟩), .int .i64 n] w fun r w' => r = .returned (.tuple #[.slice none 0 0, .int .i64 2]) ∧ Gr w w' := by
  have HH := Lib.hid h
  have Hd := Lib.hid hd
  have HN := Lib.hid hn
  clear h hd hn
  go_enter Try.func32, Try.ntmps32
  go_wp2_with fail
  refine (up_ok D _ HH.out Hd.out).mono ?_
  rintro e w1 ⟨rfl, rfl⟩
  go_wp2_with fail
  refine (there_no D n _ HH.out HN.out).mono ?_
  rintro e w1 ⟨rfl, rfl⟩
  go_wp2_with fail
  refine (first_on _ _ n 2 (heap_alloc_new w _)).mono ?_
  rintro e w1 ⟨rfl, rfl⟩
  have HG := Lib.hid (Gr.at_alloc w (.cells #[.nilIface, .iface 91 (.agg #[.int .i64 n, .iface 89 (.int .i64 2)])] 70))
  generalize w.alloc (.cells #[.nilIface, .iface 91 (.agg #[.int .i64 n, .iface 89 (.int .i64 2)])] 70) = W at *
  go_wp2_with fail
  refine (told_at n 2 _ (by omega)).mono ?_
  rintro e w2 ⟨rfl, hg⟩
  go_wp2_with fail
  refine bodyPost_ret (results_tmp2 rfl _ _ _) rfl ?_
  exact ⟨rfl, Gr.step hg HG.out⟩
set_option maxRecDepth 100000 in
set_option maxHeartbeats 1000000 in
theorem read_ok (D : Dk) (n : Nat) (w : World) (h : Dsk w D) (hd : D.dn = false) (hn : n < D.k) (hws : D.ws.length ≤ 1000000) :
    Calls Try.prog 32 #[.pointer (some ⟨D.d, 0, none⟩), .int .i64 n] w fun r w' => ∃ b, w.heap.size ≤ b ∧ w'.heap[b]? = some (.cells (bvs (see D.ws n (D.bl n))).toArray 93 (0, 0)) ∧ r = .returned (.tuple #[.slice (some ⟨b, 0, none⟩) 256 256, .int .i64 0]) ∧ Gr w w' := by
  have hsl : (see D.ws n (D.bl n)).length = 256 := by
    have h1 := (h.bln n hn).1
    have h2 : ∀ e, e ∈ D.ws → e.2.length = 256 := fun e he => (h.wsn e he).2.1
    generalize D.bl n = b at *
    generalize D.ws = ws at *
    clear hws h
    induction ws generalizing b with
    | nil => exact h1
    | cons e r ih =>
      refine ih (if e.1 = n then e.2 else b) ?_ fun e he => h2 e (List.mem_cons_of_mem _ he)
      split
      · exact h2 e (List.mem_cons_self ..)
      · exact h1
  have hlen : (bvs (see D.ws n (D.bl n))).length = 256 := by rw [bvs_len]; exact hsl
  have hst := fun W => stv93_new W (bvs (see D.ws n (D.bl n))).toArray (by rw [List.size_toArray]; exact hlen) (all_oneCell_toArray (bvs_one _))
  have HS := Lib.hid (fun W (hD : Dsk W D) => seen_ok D n W hD hn hws)
  have HH := Lib.hid h
  have Hd := Lib.hid hd
  have HN := Lib.hid hn
  clear h hd hn hlen hsl hws
  generalize (bvs (see D.ws n (D.bl n))).toArray = X at *
  go_enter Try.func32, Try.ntmps32
  go_wp2_with fail
  refine (up_ok D _ HH.out Hd.out).mono ?_
  rintro e w1 ⟨rfl, rfl⟩
  go_wp2_with fail
  refine (there_ok D n _ HH.out (by omega) (by have := HN.out; omega)).mono ?_
  rintro e w1 ⟨rfl, rfl⟩
  go_wp2_with fail
  refine (first_oo _ _ (heap_alloc_new w _)).mono ?_
  rintro e w1 ⟨rfl, rfl⟩
  have HG := Lib.hid (Gr.at_alloc w (.cells #[.nilIface, .nilIface] 70))
  generalize w.alloc (.cells #[.nilIface, .nilIface] 70) = W at *
  go_wp2_with fail
  refine (HS.out W (HH.out.gr HG.out)).mono ?_
  rintro e w2 ⟨rfl, hg⟩
  have HG2 := Lib.hid hg
  have hst2 := hst w2
  clear hg hst
  go_wp2_with fail
  refine bodyPost_ret (results_tmp2 rfl _ _ _) rfl ?_
  have hg2 : Gr w w2 := Gr.step HG2.out HG.out
  exact ⟨w2.heap.size, hg2.size, heap_alloc_new w2 _, rfl, Gr.alloc hg2 _⟩
end Go.Proofs.Ytkdphgcbecldbaa
