/- Package math/big: the sum of two numbers of one word each. -/
import Derived.Test.YthjokmfidhcclaaGreatDoorWordD
namespace Go.Proofs.YthjokmfidhcclaaGreatDoor
open Go.RowKit

set_option maxRecDepth 100000 in
set_option maxHeartbeats 2000000 in
theorem addVV_one {w : World} {g gx gy c cx cy : Nat} {L : List Nat} {x y : Nat} (hb : Blk w g L) (hL : 0 < L.length)
    (hx : w.cell? ⟨gx, 0, none⟩ = some (.int .u64 (x : Int))) (hy : w.cell? ⟨gy, 0, none⟩ = some (.int .u64 (y : Int))) :
    Calls Tryz.prog 16 #[.slice (some ⟨g, 0, none⟩) 1 c, .slice (some ⟨gx, 0, none⟩) 1 cx, .slice (some ⟨gy, 0, none⟩) 1 cy] w fun e w' => e = .returned (.int .u64 (((x + y) / 18446744073709551616 : Nat) : Int)) ∧ ∃ q, w' = (w.drewN q).setCell ⟨g, 0, none⟩ (.int .u64 (((x + y) % 18446744073709551616 : Nat) : Int)) := by
  have HA := Lib.hid (fun W : World => badd_any (w := W) x y)
  have hcell := hb.cell hL
  have hfr := hb.frozen 0
  generalize L[0] = u at hcell
  clear hb hL
  generalize (((x + y) / 18446744073709551616 : Nat) : Int) = hi at *
  generalize (((x + y) % 18446744073709551616 : Nat) : Int) = lo at *
  go_enter Tryz.func16, Tryz.ntmps16
  go_wp2_with fail
  go_loopw [6, 25] (fun cc i wr => (cc = .int .u64 0 ∧ i = .int .i64 0 ∧ wr = w) ∨ (cc = .int .u64 hi ∧ i = .int .i64 1 ∧ ∃ q, wr = (w.drewN q).setCell ⟨g, 0, none⟩ (.int .u64 lo))) (fun _ i _ => 1 - (intOf i).toNat)
  case atStart => exact .inl ⟨rfl, rfl, rfl⟩
  case round =>
    rcases hrel with ⟨rfl, rfl, rfl⟩ | ⟨rfl, rfl, q, rfl⟩
    · go_upto_region 6 with fail
      go_quiet ((go_at_call 42; exact (HA.out _).mono fun e w' h => ⟨h.1, _, h.2⟩))
      go_wp2_with fail
      go_roundw
      case measure => simp [intOf]
      case rel => exact .inr ⟨rfl, rfl, _, rfl⟩
    · go_wp2_with fail
      go_ret
      exact ⟨rfl, q, rfl⟩

theorem Tryz.addVV_enters (args : Array Value) (w : World) : (callFunc 39 args).run Tryz.prog w = .ok (.enter 16 args) w :=
  run_callFunc_twin (twin := "math/big.addVV_g") Tryz.func39 (by kernel_rfl) (by kernel_rfl) (by kernel_rfl) (by kernel_rfl) Tryz.func16 (by kernel_rfl) (by kernel_rfl) (by kernel_rfl) args w

theorem digs_one {x : Nat} (h : 0 < x) (h2 : x < 18446744073709551616) : digs 18446744073709551616 x = [x] := by
  rw [digs_pos (by omega) h, Nat.mod_eq_of_lt h2, Nat.div_eq_of_lt h2, digs_zero]

theorem BN.one {w : World} {v : Value} {x : Nat} (h : BN w v x) (h0 : 0 < x) (h2 : x < 18446744073709551616) : ∃ g c, v = .slice (some ⟨g, 0, none⟩) 1 c ∧ 1 ≤ c ∧ c ≤ 1000 ∧ w.cell? ⟨g, 0, none⟩ = some (.int .u64 (x : Int)) := by
  unfold BN at h
  rw [digs_one h0 h2] at h
  obtain ⟨g, L, rfl, hb, ht, hl⟩ := h.blk (by simp)
  have hc := h.cells 0 (.int .u64 (x : Int)) (by simp [wcs])
  exact ⟨g, L.length, rfl, by simpa using hl, hb.2, by simpa [Addr.add] using hc⟩

theorem sum_norm {w : World} {g n x y : Nat} {L : List Nat} (h : Blk w g ((L.set 0 ((x + y) % 18446744073709551616)).set 1 ((x + y) / 18446744073709551616))) (hn : (L.set 0 ((x + y) % 18446744073709551616)).length = n) (h2 : 2 ≤ n) (hx : x < 18446744073709551616) (hy : y < 18446744073709551616) :
    Calls Tryz.prog 41 #[.slice (some ⟨g, 0, none⟩) 2 n] w fun e w' => ∃ k, e = .returned (.slice (some ⟨g, 0, none⟩) k n) ∧ BN w (.slice (some ⟨g, 0, none⟩) k n) (x + y) ∧ w' = w := by
  have hv := Nat.mod_add_div (x + y) 18446744073709551616
  have hr : (x + y) % 18446744073709551616 < 18446744073709551616 := Nat.mod_lt _ (by omega)
  have hq : (x + y) / 18446744073709551616 < 18446744073709551616 := by omega
  generalize (x + y) / 18446744073709551616 = hi at *
  generalize (x + y) % 18446744073709551616 = lo at *
  obtain ⟨a, b, l, rfl⟩ : ∃ a b l, L = a :: b :: l := by
    rw [List.length_set] at hn
    match L, (show 2 ≤ L.length by omega) with
    | a :: b :: l, _ => exact ⟨a, b, l, rfl⟩
  simp only [List.set_cons_succ, List.set_cons_zero] at h hn
  have h3 := norm64_any h (n := 2) (by simp) (fun y hy => by
    simp only [List.take_succ_cons, List.take_zero, List.mem_cons, List.not_mem_nil, or_false] at hy
    rcases hy with rfl | rfl
    · exact hr
    · exact hq)
  have e : dval 18446744073709551616 (List.take 2 (lo :: hi :: l)) = x + y := by simp [dval, hv]
  rw [e] at h3
  simp only [List.length_cons] at h3 hn
  rw [hn] at h3
  exact h3

set_option maxRecDepth 100000 in
set_option maxHeartbeats 2000000 in
theorem nadd_one {w : World} {vx vy : Value} {x y : Nat} (hx : BN w vx x) (hy : BN w vy y) (hx0 : 0 < x) (hxl : x < 18446744073709551616) (hy0 : 0 < y) (hyl : y < 18446744073709551616) :
    Calls Tryz.prog 27 #[.slice none 0 0, vx, vy] w fun e w' => NewN w (x + y) e w' := by
  obtain ⟨gx, cx, rfl, hcx, _, dx⟩ := hx.one hx0 hxl
  obtain ⟨gy, cy, rfl, hcy, _, dy⟩ := hy.one hy0 hyl
  have HM := Lib.hid (show Calls Tryz.prog 38 #[.slice none 0 0, .int .i64 2] w (fun e w' => Made w (.slice none 0 0) 2 e w') from make_any (Buf.nil w) 2 (by omega) (by omega))
  have HXL := Lib.hid hxl; have HYL := Lib.hid hyl
  clear hx hy hx0 hxl hy0 hyl
  go_enter Tryz.func27, Tryz.ntmps27
  go_upto_region 10 with (go_at_call 38; ((with_reducible refine HM.out.mono ?_); rintro e w1 ⟨g, L, rfl, hbk, hlL, hk, hg⟩; have HB := Lib.hid hbk; have HK := Lib.hid hk; have HG := Lib.hid (show w.heap.size ≤ g from hg.resolve_left (fun h => by cases h)); have HLL := Lib.hid hlL; have HL1 := Lib.hid hbk.2; clear hbk hk hg hlL))
  have K0 := Lib.hid (show Keeps (fun _ => False) w1 { w1 with drawn := w1.drawn + 1 } from (Keeps.refl _ w1).drew)
  have hlL := HLL.out
  have HV := Lib.hid (fun (W : World) (hk : Keeps (fun _ => False) w1 W) => addVV_one (w := W) (c := L.length) (cx := cx) (cy := cy) (HB.out.later hk) (by omega) (hk.cell (fun h => h) (HK.out.cell (fun h => h) dx)) (hk.cell (fun h => h) (HK.out.cell (fun h => h) dy)))
  have HBW := Lib.hid (fun (W : World) (hk : Keeps (fun _ => False) w1 W) => HB.out.later hk)
  obtain ⟨n, hn⟩ : ∃ n, L.length = n := ⟨_, rfl⟩
  have HN := Lib.hid hn
  rw [hn] at hlL HV ⊢
  clear hn
  have b1 : (1 : Int) ≤ (n : Int) := by omega
  have b2 : (1 : Int) ≤ (cx : Int) := by omega
  have b3 : (1 : Int) ≤ (cy : Int) := by omega
  refine Wg.wp_region_first (C := fun w' => Keeps (fun _ => False) w1 w') (by kernel_rfl) 9 ?_
  generalize { w1 with drawn := w1.drawn + 1 } = W at *
  apply Wg.wpAnyP_stays (by kernel_rfl) [0, 1, 2, 3, 4, 5, 6, 7, 8] _ _ _ 2 _ K0.out (by kernel_rfl) ?hs ?hr
  case hs =>
    repeat (apply Wg.wpStays_step rfl rfl; (intro w' hw'; clear hw'; go_simp; exact ⟨rfl, rfl⟩); go_simp)
    exact rfl
  case hr =>
    have hd := Tryz.addVV_enters
    apply Wg.wpAnyP_one (i := 9) (fuel := 1) (by kernel_rfl) rfl rfl
    go_simp
    clear hd
    refine Wg.plain_call (HV.out W K0.out) ?_
    rintro e W2 ⟨rfl, q, rfl⟩
    refine ⟨_, rfl, trivial, ?_⟩
    have hb3 := ((HBW.out W K0.out).later ((Keeps.refl _ W).drewN q)).set 0 ((x + y) % 18446744073709551616)
    have hk3 : Keeps (fun _ => False) w ((W.drewN q).setCell ⟨g, 0, none⟩ (.int .u64 (((x + y) % 18446744073709551616 : Nat) : Int))) := ((HK.out.trans K0.out fun _ h => .inl h).drewN q).setNew HG.out _
    generalize hW3 : (W.drewN q).setCell ⟨g, 0, none⟩ (.int .u64 (((x + y) % 18446744073709551616 : Nat) : Int)) = W3 at *
    have hlen : (L.set 0 ((x + y) % 18446744073709551616)).length = n := by rw [List.length_set]; exact HN.out
    have c1 := hb3.cell (j := 1) (by omega)
    have f1 := hb3.frozen 1
    have l3 := hb3.lt
    have HB4 := Lib.hid (hb3.set 1 ((x + y) / 18446744073709551616))
    have HK3 := Lib.hid hk3
    obtain ⟨d, hd⟩ : ∃ d, (L.set 0 ((x + y) % 18446744073709551616))[1] = d := ⟨_, rfl⟩
    rw [hd] at c1
    have HNN := Lib.hid (sum_norm HB4.out hlen hlL HXL.out HYL.out)
    clear hd hb3 hk3 hW3 hlen
    obtain ⟨hi, hhi⟩ : ∃ hi : Int, (((x + y) / 18446744073709551616 : Nat) : Int) = hi := ⟨_, rfl⟩
    rw [hhi] at HB4 HNN
    simp only [hhi]
    apply Wg.wpAnyP_one (i := 10) (fuel := 0) (by kernel_rfl) rfl rfl
    go_simp
    refine ⟨trivial, by kernel_rfl, ?_⟩
    go_simp
    go_wp2_with (go_at_call 41; ((with_reducible refine HNN.out.mono ?_); rintro e w5 ⟨k, rfl, hbn, rfl⟩; have HBN := Lib.hid hbn; clear hbn))
    go_ret
    exact ⟨_, rfl, HBN.out, HK3.out.setNew HG.out _, fun k hk => by cases hk; exact HG.out⟩

end Go.Proofs.YthjokmfidhcclaaGreatDoor
