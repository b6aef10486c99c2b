
import Derived.Test.YtobljkhidgbeoaaZ01
import Derived.Test.YtobljkhidgbeoaaZ25
/- The resource: decide, Commit, Backout. -/
namespace Go.Proofs.Ytobljkhidgbeoaa.Oct
open Go.RowKit Go.Proofs.YtobljkhidgbeoaaW.PrintWords Go.Proofs.Ytobljkhidgbeoaa.M
set_option linter.unusedVariables false
set_option linter.unusedSimpArgs false
set_option maxHeartbeats 4000000 in
theorem rdecideT_calls (w : World) (F : Nat → Prop) (b : Nat) (r : Raw) (K : KM) (Q : QM) (s : RS) (n : Int) (hs : RsIs r K Q s) (h : Sep (rsL b r K Q s) w F) (hn : I64 n) (hsm : s.qu.small) :
    Calls Try.prog 33 #[.pointer (some ⟨b, 0, none⟩), .int .i64 n, .bool true] w (Ret w F (RsR b (s.commit n))) := by
  have HST0 := Aside0.mk (St.start h)
  have HS := Aside0.mk hs
  have HN := Aside0.mk hn
  have HSM := Aside0.mk hsm
  have HF := Aside0.mk (rfit_calls w F b r K Q s n hs h hn)
  have HK := Aside0.mk (St.call (l1 := kvL b r K s.kv.locks) (l2 := rsT r Q s) HST0.out (fun F1 h1 => kcommit_calls w F1 b r K s.kv n hs.kv h1 hn))
  by_cases h1 : n < 1
  · have HX : Aside0 (s.commit n = (s, 1)) := ⟨by unfold RS.commit; rw [if_pos h1]⟩
    have hf : s.fit n = 1 := by unfold RS.fit; rw [if_pos h1]
    rw [hf] at HF
    clear hs h hn hsm hf h1 HK
    go_enter Try.func33, Try.ntmps33
    go_wp2_with fail
    refine HF.out.mono ?_
    rintro e W1 ⟨rfl, hw⟩
    have hw := hw.symm
    subst hw
    go_wp2_with fail
    go_ret
    rw [HX.out]
    exact HST0.out.ret ⟨r, K, Q, rfl, HS.out, rfl⟩
  · have HX : Aside0 (s.commit n = (⟨(s.kv.commit n).1, (s.qu.commit n).1, dele s.p0 n, dele s.p1 n⟩, 0)) := ⟨by unfold RS.commit; rw [if_neg h1]⟩
    have hf : s.fit n = 7 ∨ s.fit n = 0 := by unfold RS.fit; rw [if_neg h1]; split <;> simp
    clear hs h hn hsm h1
    rcases hf with hf | hf
    all_goals
      rw [hf] at HF
      clear hf
      go_enter Try.func33, Try.ntmps33
      go_wp2_with fail
      refine HF.out.mono ?_
      rintro e W1 ⟨rfl, hw⟩
      have hw := hw.symm
      subst hw
      go_wp2_with fail
      refine HK.out.mono ?_
      rintro e W2 ⟨l', ⟨r1, K1, rfl, h1, h2, rfl⟩, hst⟩
      have HZ := Aside0.mk (rs_kv HS.out h1 h2 hst)
      have HQ2 := Aside0.mk (St.call (l1 := quL b r1 Q s.qu.items) (l2 := rsU r1 K1 ⟨(s.kv.commit n).1, s.qu, s.p0, s.p1⟩) (HZ.out.2.pick [0, 4, 5, 6, 1, 2, 3, 7, 8] (by decide)) (fun F1 h1 => qcommit_calls W2 F1 b r1 Q s.qu n HZ.out.1.qu HSM.out h1))
      clear h1 h2 hst HK
      go_wp2_with fail
      refine HQ2.out.mono ?_
      rintro e W3 ⟨l', ⟨r2, Q2, rfl, g1, g2, rfl⟩, hst⟩
      have HY := Aside0.mk (rs_qu HZ.out.1 g1 g2 hst)
      obtain ⟨_, _, _, _, _, c37, _⟩ := Raw.facts HY.out.1.kv.ok HY.out.2.heap
      obtain ⟨W4, hd0, hst4⟩ := St.delete (HY.out.2.pick [7, 0, 1, 2, 3, 4, 5, 6, 8] (by decide)) keyI Try.underlying84 HN.out 0
      obtain ⟨_, _, _, _, _, _, c38⟩ := Raw.facts HY.out.1.kv.ok (hst4.pick [1] (by decide)).heap
      obtain ⟨W5, hd1, hst5⟩ := St.delete (hst4.pick [8, 1, 2, 3, 4, 5, 6, 7, 0] (by decide)) keyI Try.underlying84 HN.out 0
      simp only [ekI] at hd0 hd1
      have HST5 : Aside0 (St w F W5 (rsL b r2 K1 Q2 ⟨(s.kv.commit n).1, (s.qu.commit n).1, dele s.p0 n, dele s.p1 n⟩)) := ⟨hst5.pick [1, 2, 3, 4, 5, 6, 7, 8, 0] (by decide)⟩
      clear g1 g2 hst hst4 hst5 HQ2
      go_wp2_with fail
      go_ret
      rw [HX.out]
      exact HST5.out.ret ⟨r2, K1, Q2, rfl, ⟨HY.out.1.kv, HY.out.1.qu⟩, rfl⟩
set_option maxHeartbeats 4000000 in
theorem rdecideF_calls (w : World) (F : Nat → Prop) (b : Nat) (r : Raw) (K : KM) (Q : QM) (s : RS) (n : Int) (hs : RsIs r K Q s) (h : Sep (rsL b r K Q s) w F) (hn : I64 n) (hsm : s.qu.small) :
    Calls Try.prog 33 #[.pointer (some ⟨b, 0, none⟩), .int .i64 n, .bool false] w (Ret w F (RsR b (s.backout n))) := by
  have HST0 := Aside0.mk (St.start h)
  have HS := Aside0.mk hs
  have HN := Aside0.mk hn
  have HSM := Aside0.mk hsm
  have HF := Aside0.mk (rfit_calls w F b r K Q s n hs h hn)
  have HK := Aside0.mk (St.call (l1 := kvL b r K s.kv.locks) (l2 := rsT r Q s) HST0.out (fun F1 h1 => kbackout_calls w F1 b r K s.kv n hs.kv h1 hn))
  by_cases h1 : n < 1
  · have HX : Aside0 (s.backout n = (s, 1)) := ⟨by unfold RS.backout; rw [if_pos h1]⟩
    have hf : s.fit n = 1 := by unfold RS.fit; rw [if_pos h1]
    rw [hf] at HF
    clear hs h hn hsm hf h1 HK
    go_enter Try.func33, Try.ntmps33
    go_wp2_with fail
    refine HF.out.mono ?_
    rintro e W1 ⟨rfl, hw⟩
    have hw := hw.symm
    subst hw
    go_wp2_with fail
    go_ret
    rw [HX.out]
    exact HST0.out.ret ⟨r, K, Q, rfl, HS.out, rfl⟩
  · have HX : Aside0 (s.backout n = (⟨(s.kv.backout n).1, (s.qu.backout n).1, dele s.p0 n, dele s.p1 n⟩, 0)) := ⟨by unfold RS.backout; rw [if_neg h1]⟩
    have hf : s.fit n = 7 ∨ s.fit n = 0 := by unfold RS.fit; rw [if_neg h1]; split <;> simp
    clear hs h hn hsm h1
    rcases hf with hf | hf
    all_goals
      rw [hf] at HF
      clear hf
      go_enter Try.func33, Try.ntmps33
      go_wp2_with fail
      refine HF.out.mono ?_
      rintro e W1 ⟨rfl, hw⟩
      have hw := hw.symm
      subst hw
      go_wp2_with fail
      refine HK.out.mono ?_
      rintro e W2 ⟨l', ⟨r1, K1, rfl, h1, h2, rfl⟩, hst⟩
      have HZ := Aside0.mk (rs_kv HS.out h1 h2 hst)
      have HQ2 := Aside0.mk (St.call (l1 := quL b r1 Q s.qu.items) (l2 := rsU r1 K1 ⟨(s.kv.backout n).1, s.qu, s.p0, s.p1⟩) (HZ.out.2.pick [0, 4, 5, 6, 1, 2, 3, 7, 8] (by decide)) (fun F1 h1 => qbackout_calls W2 F1 b r1 Q s.qu n HZ.out.1.qu HSM.out h1))
      clear h1 h2 hst HK
      go_wp2_with fail
      refine HQ2.out.mono ?_
      rintro e W3 ⟨l', ⟨r2, Q2, rfl, g1, g2, rfl⟩, hst⟩
      have HY := Aside0.mk (rs_qu HZ.out.1 g1 g2 hst)
      obtain ⟨_, _, _, _, _, c37, _⟩ := Raw.facts HY.out.1.kv.ok HY.out.2.heap
      obtain ⟨W4, hd0, hst4⟩ := St.delete (HY.out.2.pick [7, 0, 1, 2, 3, 4, 5, 6, 8] (by decide)) keyI Try.underlying84 HN.out 0
      obtain ⟨_, _, _, _, _, _, c38⟩ := Raw.facts HY.out.1.kv.ok (hst4.pick [1] (by decide)).heap
      obtain ⟨W5, hd1, hst5⟩ := St.delete (hst4.pick [8, 1, 2, 3, 4, 5, 6, 7, 0] (by decide)) keyI Try.underlying84 HN.out 0
      simp only [ekI] at hd0 hd1
      have HST5 : Aside0 (St w F W5 (rsL b r2 K1 Q2 ⟨(s.kv.backout n).1, (s.qu.backout n).1, dele s.p0 n, dele s.p1 n⟩)) := ⟨hst5.pick [1, 2, 3, 4, 5, 6, 7, 8, 0] (by decide)⟩
      clear g1 g2 hst hst4 hst5 HQ2
      go_wp2_with fail
      go_ret
      rw [HX.out]
      exact HST5.out.ret ⟨r2, K1, Q2, rfl, ⟨HY.out.1.kv, HY.out.1.qu⟩, rfl⟩
end Go.Proofs.Ytobljkhidgbeoaa.Oct
/- The resource: Commit, Backout. -/
namespace Go.Proofs.Ytobljkhidgbeoaa.Oct
open Go.RowKit Go.Proofs.YtobljkhidgbeoaaW.PrintWords Go.Proofs.Ytobljkhidgbeoaa.M
set_option linter.unusedVariables false
set_option linter.unusedSimpArgs false
set_option maxHeartbeats 2000000 in
theorem rcommit_calls (w : World) (F : Nat → Prop) (b : Nat) (r : Raw) (K : KM) (Q : QM) (s : RS) (n : Int) (hs : RsIs r K Q s) (h : Sep (rsL b r K Q s) w F) (hn : I64 n) (hsm : s.qu.small) :
    Calls Try.prog 12 #[.pointer (some ⟨b, 0, none⟩), .int .i64 n] w (Ret w F (RsR b (s.commit n))) := by
  have HD := Aside0.mk (rdecideT_calls w F b r K Q s n hs h hn hsm)
  clear hs h hn hsm
  go_enter Try.func12, Try.ntmps12
  go_wp2_with fail
  refine HD.out.mono ?_
  rintro e W1 ⟨l', ⟨r', K', Q', rfl, h1, rfl⟩, hst⟩
  have HE : Aside0 (Ret w F (RsR b (s.commit n)) (.returned (.int .i64 (s.commit n).2)) W1) := ⟨⟨_, ⟨r', K', Q', rfl, h1, rfl⟩, hst⟩⟩
  clear h1 hst HD
  go_wp2_with fail
  go_ret
  exact HE.out
set_option maxHeartbeats 2000000 in
theorem rbackout_calls (w : World) (F : Nat → Prop) (b : Nat) (r : Raw) (K : KM) (Q : QM) (s : RS) (n : Int) (hs : RsIs r K Q s) (h : Sep (rsL b r K Q s) w F) (hn : I64 n) (hsm : s.qu.small) :
    Calls Try.prog 9 #[.pointer (some ⟨b, 0, none⟩), .int .i64 n] w (Ret w F (RsR b (s.backout n))) := by
  have HD := Aside0.mk (rdecideF_calls w F b r K Q s n hs h hn hsm)
  clear hs h hn hsm
  go_enter Try.func9, Try.ntmps9
  go_wp2_with fail
  refine HD.out.mono ?_
  rintro e W1 ⟨l', ⟨r', K', Q', rfl, h1, rfl⟩, hst⟩
  have HE : Aside0 (Ret w F (RsR b (s.backout n)) (.returned (.int .i64 (s.backout n).2)) W1) := ⟨⟨_, ⟨r', K', Q', rfl, h1, rfl⟩, hst⟩⟩
  clear h1 hst HD
  go_wp2_with fail
  go_ret
  exact HE.out
end Go.Proofs.Ytobljkhidgbeoaa.Oct
/- The resource: New. -/
namespace Go.Proofs.Ytobljkhidgbeoaa.Oct
open Go.RowKit Go.Proofs.YtobljkhidgbeoaaW.PrintWords Go.Proofs.Ytobljkhidgbeoaa.M
set_option linter.unusedVariables false
set_option linter.unusedSimpArgs false
def raw0 : Raw := ⟨List.replicate 16 0, List.replicate 16 false, .map none, .map none, .slice none 0 0, .slice none 0 0, 0, .map none, .map none⟩
theorem raw0_is : RsIs raw0 [] [] RS.new := ⟨⟨⟨rfl, rfl⟩, rfl, rfl, rfl, Nat.zero_le _, fun p hp => by cases hp⟩, ⟨⟨rfl, rfl⟩, rfl, rfl⟩⟩
def RsNewR (e : Ending) (l' : List Part) : Prop := ∃ b, e = .returned (.pointer (some ⟨b, 0, none⟩)) ∧ l' = rsL b raw0 [] [] RS.new
theorem rs_new {w W : World} {F : Nat → Prop} {b : Nat} {l : List Part} (h : St w F W (pt b raw0.obj :: l)) : St w F W (rsL b raw0 [] [] RS.new ++ l) := by
  have h1 := h.1.free (A := preP (.map none) []) (mapP_nil _ _ _)
  have h2 := h1.free (A := preP (.map none) []) (mapP_nil _ _ _)
  have h3 : Sep ([preP (.map none) [], preP (.map none) [], pt b raw0.obj] ++ l) W (New w F) := h2
  have h4 := (Sep.nest (l1 := []) (l2 := [preP (.map none) [], preP (.map none) [], pt b raw0.obj] ++ l) h3)
  have h5 := h4.free (A := wrowP (.slice none 0 0) []) (row_nil _ _ _ _)
  have h6 := h5.free (A := itemP (.slice none 0 0) []) (row_nil _ _ _ _)
  have h7 := h6.free (A := lockP (.map none) []) (mapP_nil _ _ _)
  have h8 := (Sep.nest (l1 := []) h7)
  have h9 := h8.free (A := wmapP (.map none) []) (mapP_nil _ _ _)
  have hp := Sep.nest (l1 := [wmapP (.map none) [], sepP [], lockP (.map none) [], itemP (.slice none 0 0) [], wrowP (.slice none 0 0) [], sepP [], preP (.map none) [], preP (.map none) [], pt b raw0.obj]) (l2 := l) h9
  have hq := Sep.imp (B := sepP (rsL b raw0 [] [] RS.new)) hp (fun G hg => (Sep.pick hg [8, 0, 1, 2, 3, 4, 5, 6, 7] (by decide)))
  exact ⟨hq.flat, h.2⟩
set_option maxHeartbeats 2000000 in
theorem rnew_calls (w : World) :
    Calls Try.prog 6 #[] w fun e w' => e = .returned (.pointer (some ⟨w.heap.size, 0, none⟩)) ∧ w' = w.alloc raw0.obj := by
  go_enter Try.func6, Try.ntmps6
  go_wp2_with fail
  go_ret
  exact ⟨rfl, rfl⟩
end Go.Proofs.Ytobljkhidgbeoaa.Oct
/- The resource: what Prepare's proof needs: a row cut to its length, the parts with others beside them. -/
namespace Go.Proofs.Ytobljkhidgbeoaa.Oct
open Go.RowKit Go.Proofs.YtobljkhidgbeoaaW.PrintWords Go.Proofs.Ytobljkhidgbeoaa.M
set_option linter.unusedVariables false
set_option linter.unusedSimpArgs false
/-- a row cut to its length: s[:len(s):len(s)] -/
theorem OwnAt.cut {W : World} {base : Nat} {e : TypeId} {size n c : Nat} {A : Option Addr} {xs : List Value} (h : OwnAt W base e size (.slice A n c) n xs) : OwnAt W base e size (.slice A n n) n xs := by
  refine ⟨h.1, ?_⟩
  rcases h.2 with ⟨e1, hn⟩ | ⟨g, off, cap, cur, e1, h1, h2, h3, h4, h5, h6⟩
  · injection e1 with e1 e2 e3
    left
    rw [e1, hn]
    exact ⟨rfl, rfl⟩
  · injection e1 with e1 e2 e3
    right
    refine ⟨g, off, n, cur, by rw [e1], h1, h2, Nat.le_refl _, Nat.le_trans h3 h4, ?_, h6⟩
    have := Nat.mul_le_mul_right size h3
    omega
theorem row_cut {w W : World} {F : Nat → Prop} {e : TypeId} {size n c : Nat} {A : Option Addr} {xs : List Value} {l : List Part} (h : St w F W (row e size (.slice A n c) n xs :: l)) : St w F W (row e size (.slice A n n) n xs :: l) :=
  h.of (fun h => h.imp (fun G hg => ⟨hg.1.cut, fun k hk => hg.2 k (by cases A <;> exact hk)⟩))
theorem rs_kvT {w W : World} {F : Nat → Prop} {b : Nat} {r r' : Raw} {K K' : KM} {Q : QM} {s : RS} {x : KV} {l : List Part} (hs : RsIs r K Q s) (hk : KvIs r' K' x) (hr : r'.rest = r.rest) (h : St w F W (kvL b r' K' x.locks ++ rsT r Q s ++ l)) :
    RsIs r' K' Q ⟨x, s.qu, s.p0, s.p1⟩ ∧ St w F W (rsL b r' K' Q ⟨x, s.qu, s.p0, s.p1⟩ ++ l) := by
  unfold Raw.rest at hr
  injection hr with e1 hr
  injection hr with e2 hr
  injection hr with e3 hr
  injection hr with e4 e5
  refine ⟨⟨hk, ⟨hk.ok, hs.qu.works, by rw [e3]; exact hs.qu.given⟩⟩, ?_⟩
  unfold rsL
  rw [e1, e2, e4, e5]
  exact h
theorem rs_quT {w W : World} {F : Nat → Prop} {b : Nat} {r r' : Raw} {K : KM} {Q Q' : QM} {s : RS} {y : QU} {C : Part} (hs : RsIs r K Q s) (hk : QuIs r' Q' y) (hr : r'.kvs = r.kvs) (h : St w F W (quL b r' Q' y.items ++ (rsU r K s ++ [C]))) :
    RsIs r' K Q' ⟨s.kv, y, s.p0, s.p1⟩ ∧ St w F W (rsL b r' K Q' ⟨s.kv, y, s.p0, s.p1⟩ ++ [C]) := by
  unfold Raw.kvs at hr
  injection hr with e1 hr
  injection hr with e2 hr
  injection hr with e3 hr
  injection hr with e4 hr
  injection hr with e5 e6
  refine ⟨⟨⟨hk.ok, by rw [e1]; exact hs.kv.vals, by rw [e2]; exact hs.kv.there, hs.kv.works, hs.kv.len, hs.kv.good⟩, hk⟩, ?_⟩
  unfold rsL
  rw [e3, e4, e5, e6]
  exact h.pick [0, 4, 5, 6, 1, 2, 3, 7, 8, 9] (by decide)
end Go.Proofs.Ytobljkhidgbeoaa.Oct
/- The resource: Prepare. -/
namespace Go.Proofs.Ytobljkhidgbeoaa.Oct
open Go.RowKit Go.Proofs.YtobljkhidgbeoaaW.PrintWords Go.Proofs.Ytobljkhidgbeoaa.M
set_option linter.unusedVariables false
set_option linter.unusedSimpArgs false
theorem rs_quT2 {w W : World} {F : Nat → Prop} {b : Nat} {r r' : Raw} {K : KM} {Q Q' : QM} {s : RS} {y : QU} {C D : Part} (hs : RsIs r K Q s) (hk : QuIs r' Q' y) (hr : r'.kvs = r.kvs) (h : St w F W (quL b r' Q' y.items ++ (rsU r K s ++ [C, D]))) :
    RsIs r' K Q' ⟨s.kv, y, s.p0, s.p1⟩ ∧ St w F W (rsL b r' K Q' ⟨s.kv, y, s.p0, s.p1⟩ ++ [C, D]) := by
  unfold Raw.kvs at hr
  injection hr with e1 hr
  injection hr with e2 hr
  injection hr with e3 hr
  injection hr with e4 hr
  injection hr with e5 e6
  refine ⟨⟨⟨hk.ok, by rw [e1]; exact hs.kv.vals, by rw [e2]; exact hs.kv.there, hs.kv.works, hs.kv.len, hs.kv.good⟩, hk⟩, ?_⟩
  unfold rsL
  rw [e3, e4, e5, e6]
  exact h.pick [0, 4, 5, 6, 1, 2, 3, 7, 8, 9, 10] (by decide)
theorem mark_len (p : List (Int × Bool)) (n : Int) (l : List Ch) : (if l.length = 0 then p else put p n true) = pMark p n l := by
  unfold pMark
  cases l <;> simp
theorem kprep_len {r : Raw} {K : KM} {s : KV} (h : KvIs r K s) (n : Int) : (s.prepare n).2.1.length ≤ 16 := by
  unfold KV.prepare
  split
  · simp
  · cases hl : look s.works n with
    | none => simp
    | some w =>
      dsimp only
      split
      · simp
      · split
        · simp
        · exact chGood_len (h.good _ (look_mem hl))
theorem qprep_len {q : QU} (h : q.small) (n : Int) : (q.prepare n).2.1.length ≤ 1000 := by
  unfold QU.prepare
  split
  · simp
  · cases hf : q.find n with
    | none => simp
    | some w =>
      dsimp only
      unfold QU.find at hf
      exact h.lists _ (List.mem_of_find?_eq_some hf)
def RsPrepR (b : Nat) (x : RS × List Ch × Int) (e : Ending) (l' : List Part) : Prop := ∃ v r' K' Q', e = .returned (.tuple #[v, .int .i64 x.2.2]) ∧ RsIs r' K' Q' x.1 ∧ l' = chRow v x.2.1 :: rsL b r' K' Q' x.1
set_option maxRecDepth 100000 in
set_option maxHeartbeats 8000000 in
theorem rprepare_calls (w : World) (F : Nat → Prop) (b : Nat) (r : Raw) (K : KM) (Q : QM) (s : RS) (n : Int) (hs : RsIs r K Q s) (h : Sep (rsL b r K Q s) w F) (hn : I64 n) (hsm : s.qu.small) :
    Calls Try.prog 32 #[.pointer (some ⟨b, 0, none⟩), .int .i64 n] w (Ret w F (RsPrepR b (s.prepare n))) := by
  have HST0 := Aside0.mk (St.start h)
  have HS := Aside0.mk hs
  have HN := Aside0.mk hn
  have HSM := Aside0.mk hsm
  have HF := Aside0.mk (rfit_calls w F b r K Q s n hs h hn)
  by_cases hf : s.fit n = 0
  · have HX : Aside0 (s.prepare n = (⟨(s.kv.prepare n).1, (s.qu.prepare n).1, pMark s.p0 n (s.kv.prepare n).2.1, pMark s.p1 n (s.qu.prepare n).2.1⟩, (s.kv.prepare n).2.1 ++ (s.qu.prepare n).2.1, 0)) := ⟨by unfold RS.prepare; rw [if_neg (by rw [hf]; decide)]⟩
    have HP := Aside0.mk (St.call (l1 := kvL b r K s.kv.locks) (l2 := rsT r Q s) HST0.out (fun F1 h1 => kprepare_calls w F1 b r K s.kv n hs.kv h1 hn))
    have HLA := Aside0.mk (kprep_len hs.kv n)
    have HLB := Aside0.mk (qprep_len hsm n)
    rw [hf] at HF
    obtain ⟨xa, hxa⟩ : ∃ xa, xa = s.kv.prepare n := ⟨_, rfl⟩
    obtain ⟨xb, hxb⟩ : ∃ xb, xb = s.qu.prepare n := ⟨_, rfl⟩
    rw [← hxa] at HX HP HLA
    rw [← hxb] at HX HLB
    obtain ⟨k1, la, ea⟩ := xa
    obtain ⟨q1, lb, eb⟩ := xb
    have HXB := Aside0.mk hxb
    dsimp only at HX HP HLA HLB
    clear hs h hn hf hsm hxa hxb
    go_enter Try.func32, Try.ntmps32
    go_wp2_with fail
    refine HF.out.mono ?_
    rintro e W1 ⟨rfl, hw⟩
    have hw := hw.symm
    subst hw
    go_wp2_with fail
    refine HP.out.mono ?_
    rintro e W2 ⟨l', ⟨va, r1, K1, rfl, h1, h2, rfl⟩, hst⟩
    dsimp only at h1 hst ⊢
    have HZ := Aside0.mk (rs_kvT (l := [chRow va la]) HS.out h1 h2 (hst.pick [1, 2, 3, 4, 5, 6, 7, 8, 9, 0] (by decide)))
    obtain ⟨A, c, rfl, hc1, hc2, _⟩ := chRow_form (hst.1.pick [0] (by decide)).one
    have HQ2 := Aside0.mk (St.call (l1 := quL b r1 Q s.qu.items) (l2 := rsU r1 K1 ⟨k1, s.qu, s.p0, s.p1⟩ ++ [chRow (.slice A la.length c) la]) (HZ.out.2.pick [0, 4, 5, 6, 1, 2, 3, 7, 8, 9] (by decide)) (fun F1 h1 => qprepare_calls W2 F1 b r1 Q s.qu n HZ.out.1.qu HSM.out h1))
    rw [← HXB.out] at HQ2
    have HC1 := Aside0.mk hc1
    have HC2 := Aside0.mk hc2
    clear h1 h2 hst HP hc1 hc2
    go_wp2_with fail
    refine HQ2.out.mono ?_
    rintro e W3 ⟨l', ⟨vb, r2, Q2, rfl, g1, g2, rfl⟩, hst⟩
    dsimp only at g1 hst ⊢
    obtain ⟨B, d, rfl, _, _, hat⟩ := chRow_form (hst.1.pick [0] (by decide)).one
    have HY := Aside0.mk (rs_quT2 (s := ⟨k1, s.qu, s.p0, s.p1⟩) (C := chRow (.slice A la.length c) la) (D := chRow (.slice B lb.length d) lb) HZ.out.1 g1 g2 (hst.pick [1, 2, 3, 4, 5, 6, 7, 8, 9, 10, 0] (by decide)))
    have HM0 := Aside0.mk (St.call (l1 := [pt b r2.obj, preP r2.p0 s.p0]) (l2 := [wmapP r2.wm (ptrs K1), objsP kwP K1, lockP r2.lm k1.locks, itemP r2.iv q1.items, wrowP r2.wv Q2, qObjs Q2, preP r2.p1 s.p1, chRow (.slice A la.length c) la, chRow (.slice B lb.length d) lb]) (HY.out.2.pick [0, 7, 1, 2, 3, 4, 5, 6, 8, 9, 10] (by decide)) (fun F1 h1 => rmark0_calls W3 F1 b r2 s.p0 n A la.length c HY.out.1.kv.ok HN.out h1))
    rw [mark_len] at HM0
    clear g1 g2 hst HQ2 hat HZ
    go_wp2_with fail
    refine HM0.out.mono ?_
    rintro e W4 ⟨l', ⟨v0, rfl, rfl⟩, hst⟩
    have HM1 := Aside0.mk (St.call (l1 := [pt b ({ r2 with p0 := v0 } : Raw).obj, preP ({ r2 with p0 := v0 } : Raw).p1 s.p1]) (l2 := [preP v0 (pMark s.p0 n la), wmapP r2.wm (ptrs K1), objsP kwP K1, lockP r2.lm k1.locks, itemP r2.iv q1.items, wrowP r2.wv Q2, qObjs Q2, chRow (.slice A la.length c) la, chRow (.slice B lb.length d) lb]) (hst.pick [0, 8, 1, 2, 3, 4, 5, 6, 7, 9, 10] (by decide)) (fun F1 h1 => rmark1_calls W4 F1 b { r2 with p0 := v0 } s.p1 n B lb.length d HY.out.1.kv.ok HN.out h1))
    rw [mark_len] at HM1
    clear hst HM0
    go_wp2_with fail
    refine HM1.out.mono ?_
    rintro e W5 ⟨l', ⟨v1, rfl, rfl⟩, hst⟩
    have HST5 := Aside0.mk (row_cut (hst.pick [9, 0, 3, 4, 5, 6, 7, 8, 2, 1, 10] (by decide)))
    obtain ⟨_, _, e1, _, _, hat⟩ := chRow_form (HST5.out.1.pick [10] (by decide)).one
    injection e1 with e1 _ e2
    subst e1 e2
    have HAT := Aside0.mk hat
    have HIS : Aside0 (RsIs { r2 with p0 := v0, p1 := v1 } K1 Q2 ⟨k1, q1, pMark s.p0 n la, pMark s.p1 n lb⟩) := ⟨⟨⟨HY.out.1.kv.ok, HY.out.1.kv.vals, HY.out.1.kv.there, HY.out.1.kv.works, HY.out.1.kv.len, HY.out.1.kv.good⟩, ⟨HY.out.1.qu.ok, HY.out.1.qu.works, HY.out.1.qu.given⟩⟩⟩
    have k0 : (0 : Int) ≤ (la.length : Int) := by omega
    have k1' : (la.length : Int) ≤ (c : Int) := by have := HC1.out; omega
    obtain ⟨i0, hi0, hz0, hz1, hz2⟩ := info_parts info_ch
    clear hst HM1 hat
    go_wp2_with ((with_reducible refine gate_dst (N := 48) rfl ?_); at_builtin; refine wpList_append_at _ rfl (.tmp 46) (.tmp 47) 39 rfl 0 94 i0 (.agg #[.int .i64 0, .int .i64 0, .int .u64 0]) 3 24 Try.underlying39 hi0 hz0 hz1 hz2 rfl (by decide) (.slice A la.length la.length) la.length (chCells la) rfl HST5.out.1.head.1 B lb.length d (chCells lb) rfl (chCells_len lb) (fun hp => chAt_news HAT.out hp) (chCells_one lb) ?aL ?aM (Nat.zero_le _) ?_; (case aL => simp only [maxLen]; have := HLA.out; have := HLB.out; omega); (case aM => have := HLA.out; have := HLB.out; omega); intro v6 w6 ho hg hn6; have HST6 := Aside0.mk (HST5.out.grown ho hg hn6); clear ho hg hn6)
    go_ret2
    rw [HX.out]
    refine (HST6.out.pick [0, 1, 2, 3, 4, 5, 6, 7, 8, 9] (by decide)).ret ⟨v6, { r2 with p0 := v0, p1 := v1 }, K1, Q2, rfl, HIS.out, ?_⟩
    show [_, _, _, _, _, _, _, _, _, _] = [_, _, _, _, _, _, _, _, _, _]
    unfold chRow
    rw [List.length_append, show chCells (la ++ lb) = chCells la ++ chCells lb by simp [chCells]]
    rfl
  · have HX : Aside0 (s.prepare n = (s, [], s.fit n)) := ⟨by unfold RS.prepare; rw [if_pos hf]⟩
    have HNIL : Aside0 (∀ W, (chRow (.slice none 0 0) []).P W (fun _ => False)) := ⟨fun W => row_nil W _ _ _⟩
    generalize s.fit n = ec at HF HX hf
    have hne : (ec != 0) = true := bne_iff_ne.2 hf
    clear hs h hf
    go_enter Try.func32, Try.ntmps32
    go_wp2_with fail
    refine HF.out.mono ?_
    rintro e W1 ⟨rfl, hw⟩
    have hw := hw.symm
    subst hw
    go_wp2_with fail
    go_ret2
    rw [HX.out]
    exact (HST0.out.free (HNIL.out _)).ret ⟨_, r, K, Q, rfl, HS.out, rfl⟩
end Go.Proofs.Ytobljkhidgbeoaa.Oct
namespace Go.Proofs.Ytobljkhidgbeoaa.Oct
open Go.RowKit Go.Proofs.YtobljkhidgbeoaaW.PrintWords Go.Proofs.Ytobljkhidgbeoaa.M
/-- what Put tells -/
def RetPut (w : World) (v n : Int) (e : Ending) (w' : World) : Prop := ∃ r, e = .returned (.tuple #[r, .int .i64 (putM v n).2]) ∧ OB w' w.heap.size r (putM v n).1 ∧ Below w.heap.size w w'
end Go.Proofs.Ytobljkhidgbeoaa.Oct
