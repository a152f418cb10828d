/-
  plan.mapper.own. (printed by wip/gen_gtq.py)
-/
import Derived.Test.YthijagpnpcpcbaaGreatQGtQb
namespace Go.Proofs.YthijagpnpcpcbaaGreat
open Go.RowKit Go.Sort
/-- What a list without expressions comes to. -/
def MxPost0 {σ : Type} (M : Mpr σ) (T : TypeId) (d : Int) (zs : List Value) (s0 : σ) (W : World) (cs : List Value) (t : Uy) (l : List DT) (s : σ) (w : World) (e : Ending) (w' : World) : Prop :=
  ∃ (A : Option Addr) (ys : List DT), e = .returned (.slice A l.length l.length) ∧ Mx M T d zs s0 W cs s w' ∧ Tr M (W.heap.size + 4) s w s w' ∧ LR M.C (W.heap.size + 4) s w' t (USm t) l A ys
theorem Mx.post0 {σ : Type} {M : Mpr σ} {T : TypeId} {d : Int} {zs cs : List Value} {s0 s : σ} {W w : World} {t : Uy} {l : List DT} {e : Ending} {w' : World} (h : Mx M T d zs s0 W cs s w) (hp : LsPost C0 (fun _ => True) (USm t) t l () w e w') : MxPost0 M T d zs s0 W cs t l s w e w' := by
  obtain ⟨A, ys, s', he, hf, _, hr⟩ := hp.lr
  obtain ⟨h1, h2⟩ := h.call (Fr.below h.fr.st hf.to0)
  exact ⟨A, ys, he, h1, h2, (hr.of0 h.fr.st).lower h.sz⟩
theorem Mx.types {σ : Type} {M : Mpr σ} {T : TypeId} {d : Int} {zs cs : List Value} {s0 s : σ} {W w : World} (hst : M.C.St s0 W) (h : Mx M T d zs s0 W cs s w) (l : List DT) (A : Option Addr) (cap : Nat) (hn : nL l ≤ 1048576) (hl : DRow (fun k => k < M.C.B) W 3 A cap l) (hin : ∀ x, x ∈ l → UIn (fun k => k < M.C.B) W .type x) :
    Calls Tryz.prog 99 #[.slice A l.length cap, .func (.func 58) #[] #[]] w (MxPost0 M T d zs s0 W cs .type l s w) := by
  have hB := M.C.base s w h.fr.st
  have hln := len_nL l
  refine (listTyp_any C0 (fun _ _ => True) (USm .type) 58 #[] (enters_of Tryz.func58 (by kernel_rfl) rfl) l A cap (fun k => k < M.C.B) () w trivial trivial (fun k hk => ⟨by omega, fun e => e⟩) (hl.keep (h.fr.src hst) fun _ h => h) (fun x hx => (hin x hx).keep (h.fr.src hst) fun _ h => h) (by omega) fun j x s' W' hx _ hf => ?_).mono fun _ _ hp => h.post0 hp
  have hb' := hf.to0
  have hxn := n_mem (mem_of_get? hx)
  have hz := hb'.size
  exact copyType_any x (fun k => k < M.C.B) W' (by omega) (((hin x (mem_of_get? hx)).keep (h.fr.src hst) fun _ h => h).keep (fun k hk => hb'.block k (by omega)) fun _ h => h) fun k hk => by omega
theorem Mx.rows {σ : Type} {M : Mpr σ} {T : TypeId} {d : Int} {zs cs : List Value} {s0 s : σ} {W w : World} (hst : M.C.St s0 W) (h : Mx M T d zs s0 W cs s w) (l : List DT) (A : Option Addr) (cap : Nat) (hn : nL l ≤ 1048576) (hl : DRow (fun k => k < M.C.B) W 1 A cap l) (hin : ∀ x, x ∈ l → UIn (fun k => k < M.C.B) W .row x) :
    Calls Tryz.prog 100 #[.slice A l.length cap, .func (.func 101) #[] #[]] w (MxPost0 M T d zs s0 W cs .row l s w) := by
  have hB := M.C.base s w h.fr.st
  have hln := len_nL l
  refine (listRow_any C0 (fun _ _ => True) (USm .row) 101 #[] (enters_of Tryz.func101 (by kernel_rfl) rfl) l A cap (fun k => k < M.C.B) () w trivial trivial (fun k hk => ⟨by omega, fun e => e⟩) (hl.keep (h.fr.src hst) fun _ h => h) (fun x hx => (hin x hx).keep (h.fr.src hst) fun _ h => h) (by omega) fun j x s' W' hx _ hf A' cap' m hxe => ?_).mono fun _ _ hp => h.post0 hp
  subst hxe
  have hb' := hf.to0
  have hxn := n_mem (mem_of_get? hx)
  have hz := hb'.size
  exact own1_any (fun k => k < M.C.B) W' A' cap' m (((hin _ (mem_of_get? hx)).keep (h.fr.src hst) fun _ h => h).keep (fun k hk => hb'.block k (by omega)) fun _ h => h) (by omega) fun k hk => by omega
theorem Mx.sets {σ : Type} {M : Mpr σ} {T : TypeId} {d : Int} {zs cs : List Value} {s0 s : σ} {W w : World} (hst : M.C.St s0 W) (h : Mx M T d zs s0 W cs s w) (l : List DT) (A : Option Addr) (cap : Nat) (hn : nL l ≤ 1048576) (hl : DRow (fun k => k < M.C.B) W 1 A cap l) (hin : ∀ x, x ∈ l → UIn (fun k => k < M.C.B) W .set x) :
    Calls Tryz.prog 104 #[.slice A l.length cap, .func (.func 105) #[] #[]] w (MxPost0 M T d zs s0 W cs .set l s w) := by
  have hB := M.C.base s w h.fr.st
  have hln := len_nL l
  refine (listSet_any C0 (fun _ _ => True) (USm .set) 105 #[] (enters_of Tryz.func105 (by kernel_rfl) rfl) l A cap (fun k => k < M.C.B) () w trivial trivial (fun k hk => ⟨by omega, fun e => e⟩) (hl.keep (h.fr.src hst) fun _ h => h) (fun x hx => (hin x hx).keep (h.fr.src hst) fun _ h => h) (by omega) fun j x s' W' hx _ hf A' cap' m hxe => ?_).mono fun _ _ hp => h.post0 hp
  subst hxe
  have hb' := hf.to0
  have hxn := n_mem (mem_of_get? hx)
  have hz := hb'.size
  exact own3_any (fun k => k < M.C.B) W' A' cap' m (((hin _ (mem_of_get? hx)).keep (h.fr.src hst) fun _ h => h).keep (fun k hk => hb'.block k (by omega)) fun _ h => h) (by omega)
theorem uIlt : (Tryz.prog.info? 52).map (·.size) = some 1 := by kernel_rfl
theorem uIlr : (Tryz.prog.info? 53).map (·.size) = some 1 := by kernel_rfl
theorem uIls : (Tryz.prog.info? 54).map (·.size) = some 1 := by kernel_rfl
theorem uIlw : (Tryz.prog.info? 56).map (·.size) = some 1 := by kernel_rfl
theorem uI59 : (Tryz.prog.info? 59).map (·.size) = some 14 := by kernel_rfl
/-- What own comes to. -/
def OwnPost {σ : Type} (M : Mpr σ) (d : Int) (k op : Int) (nm : ByteArray) (all : Bool) (off cnt : Int) (I : Option Addr) (ic : Nat) (iz tz rz xz sz gz wz kz : List DT) (s : σ) (W : World) (e : Ending) (w' : World) : Prop :=
  ∃ (A1 A2 A3 A4 A5 A6 A7 : Option Addr) (y1 y2 y3 y4 y5 y6 y7 : List DT) (s' : σ), e = .returned (.agg #[.int .i64 k, .int .i64 op, .string nm, .bool all, .slice A1 tz.length tz.length, .slice A2 rz.length rz.length, .slice I iz.length ic, .slice A3 xz.length xz.length, .slice A4 sz.length sz.length, .slice A5 gz.length gz.length, .slice A6 wz.length wz.length, .slice A7 kz.length kz.length, .int .i64 off, .int .i64 cnt]) ∧ Fr M.C s W s' w' ∧ (M.vst s s' (nL xz + nL gz + nL wz + nL kz) fun v => VL M.m .expr d xz v ∨ VL M.m .agg d gz v ∨ VL M.m .win d wz v ∨ VL M.m .key d kz v) ∧
    LR M.C W.heap.size s' w' .type (USm .type) tz A1 y1 ∧ LR M.C W.heap.size s' w' .row (USm .row) rz A2 y2 ∧ LR M.C W.heap.size s' w' .expr (Mp M.m .expr d) xz A3 y3 ∧ LR M.C W.heap.size s' w' .set (USm .set) sz A4 y4 ∧ LR M.C W.heap.size s' w' .agg (Mp M.m .agg d) gz A5 y5 ∧ LR M.C W.heap.size s' w' .win (Mp M.m .win d) wz A6 y6 ∧ LR M.C W.heap.size s' w' .key (Mp M.m .key d) kz A7 y7
set_option maxRecDepth 100000 in
set_option maxHeartbeats 4000000 in
theorem own_step (N : Nat) (h2 : HC 103 .expr N 0) (h4 : HC 108 .agg N 0) (h5 : HC 111 .win N 0) (h6 : HC 114 .key N 0) {σ : Type} (M : Mpr σ) (x : DT) (d : Int) (s : σ) (W : World) (hd : 0 ≤ d) (hst : M.C.St s W)
    (k op : Int) (nm : ByteArray) (all : Bool) (off cnt : Int) (I : Option Addr) (ic : Nat) (iz tz rz xz sz gz wz kz : List DT) (T : Option Addr) (tc : Nat) (R : Option Addr) (rc : Nat) (X : Option Addr) (xc : Nat) (S : Option Addr) (sc : Nat) (G : Option Addr) (gc : Nat) (WN : Option Addr) (wc : Nat) (K : Option Addr) (kc : Nat)
    (hx0 : ReU (fun k => k < M.C.B) W x k op nm all off cnt T tc tz R rc rz I ic iz X xc xz S sc sz G gc gz WN wc wz K kc kz) (hn1 : nL tz ≤ 1048576) (hn2 : nL rz ≤ 1048576) (hn4 : nL sz ≤ 1048576) (hn3 : nL xz < N) (hm3 : d + nL xz ≤ 1048576) (hn5 : nL gz < N) (hm5 : d + nL gz ≤ 1048576) (hn6 : nL wz < N) (hm6 : d + nL wz ≤ 1048576) (hn7 : nL kz < N) (hm7 : d + nL kz ≤ 1048576) (hcn : M.cnt s + (nL xz + nL gz + nL wz + nL kz) ≤ 1048576) :
    Calls Tryz.prog 87 #[.agg #[M.v], .agg #[.int .i64 k, .int .i64 op, .string nm, .bool all, .slice T tz.length tc, .slice R rz.length rc, .slice I iz.length ic, .slice X xz.length xc, .slice S sz.length sc, .slice G gz.length gc, .slice WN wz.length wc, .slice K kz.length kc, .int .i64 off, .int .i64 cnt], .int .i64 d] W (OwnPost M d k op nm all off cnt I ic iz tz rz xz sz gz wz kz s W) := by
  have hB := M.C.base s W hst
  show Calls _ _ #[.agg #[M.v], .agg #[.int .i64 k, .int .i64 op, .string nm, .bool all, .slice T tz.length tc, .slice R rz.length rc, .slice I iz.length ic, .slice X xz.length xc, .slice S sz.length sc, .slice G gz.length gc, .slice WN wz.length wc, .slice K kz.length kc, .int .i64 off, .int .i64 cnt], .int .i64 d] _ _
  obtain ⟨w1, hw1⟩ : ∃ w1, W.alloc (.cells #[M.v] 73) = w1 := ⟨_, rfl⟩
  obtain ⟨w2, hw2⟩ : ∃ w2, w1.alloc (.cells #[.int .i64 k, .int .i64 op, .string nm, .bool all, .slice T tz.length tc, .slice R rz.length rc, .slice I iz.length ic, .slice X xz.length xc, .slice S sz.length sc, .slice G gz.length gc, .slice WN wz.length wc, .slice K kz.length kc, .int .i64 off, .int .i64 cnt] 59) = w2 := ⟨_, rfl⟩
  obtain ⟨w3, hw3⟩ : ∃ w3, w2.alloc (.cells #[.int .i64 d] 3) = w3 := ⟨_, rfl⟩
  obtain ⟨w4, hw4⟩ : ∃ w4, w3.alloc (.cells #[.int .i64 0, .int .i64 0, .string ⟨#[]⟩, .bool false, .slice none 0 0, .slice none 0 0, .slice none 0 0, .slice none 0 0, .slice none 0 0, .slice none 0 0, .slice none 0 0, .slice none 0 0, .int .i64 0, .int .i64 0] 59) = w4 := ⟨_, rfl⟩
  have hz1 : w1.heap.size = W.heap.size + 1 := by rw [← hw1]; simp
  have hz2 : w2.heap.size = W.heap.size + 2 := by rw [← hw2]; simp [hz1]
  have hz3 : w3.heap.size = W.heap.size + 3 := by rw [← hw3]; simp [hz2]
  have hz4 : w4.heap.size = W.heap.size + 4 := by rw [← hw4]; simp [hz3]
  have hmd := Mx.new (cs := [.int .i64 k, .int .i64 op, .string nm, .bool all, .slice T tz.length tc, .slice R rz.length rc, .slice I iz.length ic, .slice X xz.length xc, .slice S sz.length sc, .slice G gz.length gc, .slice WN wz.length wc, .slice K kz.length kc, .int .i64 off, .int .i64 cnt]) (zs := [.int .i64 0, .int .i64 0, .string ⟨#[]⟩, .bool false, .slice none 0 0, .slice none 0 0, .slice none 0 0, .slice none 0 0, .slice none 0 0, .slice none 0 0, .slice none 0 0, .slice none 0 0, .int .i64 0, .int .i64 0]) hst hw1 hw2 hw3 hw4
  have hc1 : Hid (∀ s' w' cs, Mx M 59 d [.int .i64 0, .int .i64 0, .string ⟨#[]⟩, .bool false, .slice none 0 0, .slice none 0 0, .slice none 0 0, .slice none 0 0, .slice none 0 0, .slice none 0 0, .slice none 0 0, .slice none 0 0, .int .i64 0, .int .i64 0] s W cs s' w' → Calls Tryz.prog 99 #[.slice T tz.length tc, .func (.func 58) #[] #[]] w' (MxPost0 M 59 d [.int .i64 0, .int .i64 0, .string ⟨#[]⟩, .bool false, .slice none 0 0, .slice none 0 0, .slice none 0 0, .slice none 0 0, .slice none 0 0, .slice none 0 0, .slice none 0 0, .slice none 0 0, .int .i64 0, .int .i64 0] s W cs .type tz s' w')) :=
    fun s' w' cs hm => Mx.types hst hm tz T tc hn1 hx0.rt hx0.it
  have hc2 : Hid (∀ s' w' cs, Mx M 59 d [.int .i64 0, .int .i64 0, .string ⟨#[]⟩, .bool false, .slice none 0 0, .slice none 0 0, .slice none 0 0, .slice none 0 0, .slice none 0 0, .slice none 0 0, .slice none 0 0, .slice none 0 0, .int .i64 0, .int .i64 0] s W cs s' w' → Calls Tryz.prog 100 #[.slice R rz.length rc, .func (.func 101) #[] #[]] w' (MxPost0 M 59 d [.int .i64 0, .int .i64 0, .string ⟨#[]⟩, .bool false, .slice none 0 0, .slice none 0 0, .slice none 0 0, .slice none 0 0, .slice none 0 0, .slice none 0 0, .slice none 0 0, .slice none 0 0, .int .i64 0, .int .i64 0] s W cs .row rz s' w')) :=
    fun s' w' cs hm => Mx.rows hst hm rz R rc hn2 hx0.rr hx0.ir
  have hc3 : Hid (∀ s' w' cs, Mx M 59 d [.int .i64 0, .int .i64 0, .string ⟨#[]⟩, .bool false, .slice none 0 0, .slice none 0 0, .slice none 0 0, .slice none 0 0, .slice none 0 0, .slice none 0 0, .slice none 0 0, .slice none 0 0, .int .i64 0, .int .i64 0] s W cs s' w' → M.cnt s' + nL xz ≤ 1048576 → Calls Tryz.prog 20 #[.slice X xz.length xc, .func (.func 103) #[] #[.pointer (some ⟨W.heap.size, 0, none⟩), .pointer (some ⟨W.heap.size + 2, 0, none⟩)]] w' (MxPost M 59 d [.int .i64 0, .int .i64 0, .string ⟨#[]⟩, .bool false, .slice none 0 0, .slice none 0 0, .slice none 0 0, .slice none 0 0, .slice none 0 0, .slice none 0 0, .slice none 0 0, .slice none 0 0, .int .i64 0, .int .i64 0] s W cs .expr d xz s' w')) :=
    fun s' w' cs hm hcn' => Mx.listExp h2 (enters_of Tryz.func103 (by kernel_rfl) rfl) hst hm d xz X xc (by omega) hn3 hd hd hm3 hx0.rx hx0.ix hcn'
  have hc4 : Hid (∀ s' w' cs, Mx M 59 d [.int .i64 0, .int .i64 0, .string ⟨#[]⟩, .bool false, .slice none 0 0, .slice none 0 0, .slice none 0 0, .slice none 0 0, .slice none 0 0, .slice none 0 0, .slice none 0 0, .slice none 0 0, .int .i64 0, .int .i64 0] s W cs s' w' → Calls Tryz.prog 104 #[.slice S sz.length sc, .func (.func 105) #[] #[]] w' (MxPost0 M 59 d [.int .i64 0, .int .i64 0, .string ⟨#[]⟩, .bool false, .slice none 0 0, .slice none 0 0, .slice none 0 0, .slice none 0 0, .slice none 0 0, .slice none 0 0, .slice none 0 0, .slice none 0 0, .int .i64 0, .int .i64 0] s W cs .set sz s' w')) :=
    fun s' w' cs hm => Mx.sets hst hm sz S sc hn4 hx0.rs hx0.is
  have hc5 : Hid (∀ s' w' cs, Mx M 59 d [.int .i64 0, .int .i64 0, .string ⟨#[]⟩, .bool false, .slice none 0 0, .slice none 0 0, .slice none 0 0, .slice none 0 0, .slice none 0 0, .slice none 0 0, .slice none 0 0, .slice none 0 0, .int .i64 0, .int .i64 0] s W cs s' w' → M.cnt s' + nL gz ≤ 1048576 → Calls Tryz.prog 107 #[.slice G gz.length gc, .func (.func 108) #[] #[.pointer (some ⟨W.heap.size, 0, none⟩), .pointer (some ⟨W.heap.size + 2, 0, none⟩)]] w' (MxPost M 59 d [.int .i64 0, .int .i64 0, .string ⟨#[]⟩, .bool false, .slice none 0 0, .slice none 0 0, .slice none 0 0, .slice none 0 0, .slice none 0 0, .slice none 0 0, .slice none 0 0, .slice none 0 0, .int .i64 0, .int .i64 0] s W cs .agg d gz s' w')) :=
    fun s' w' cs hm hcn' => Mx.listAgg h4 (enters_of Tryz.func108 (by kernel_rfl) rfl) hst hm d gz G gc (by omega) hn5 hd hd hm5 hx0.rg hx0.ig hcn'
  have hc6 : Hid (∀ s' w' cs, Mx M 59 d [.int .i64 0, .int .i64 0, .string ⟨#[]⟩, .bool false, .slice none 0 0, .slice none 0 0, .slice none 0 0, .slice none 0 0, .slice none 0 0, .slice none 0 0, .slice none 0 0, .slice none 0 0, .int .i64 0, .int .i64 0] s W cs s' w' → M.cnt s' + nL wz ≤ 1048576 → Calls Tryz.prog 110 #[.slice WN wz.length wc, .func (.func 111) #[] #[.pointer (some ⟨W.heap.size, 0, none⟩), .pointer (some ⟨W.heap.size + 2, 0, none⟩)]] w' (MxPost M 59 d [.int .i64 0, .int .i64 0, .string ⟨#[]⟩, .bool false, .slice none 0 0, .slice none 0 0, .slice none 0 0, .slice none 0 0, .slice none 0 0, .slice none 0 0, .slice none 0 0, .slice none 0 0, .int .i64 0, .int .i64 0] s W cs .win d wz s' w')) :=
    fun s' w' cs hm hcn' => Mx.listWin h5 (enters_of Tryz.func111 (by kernel_rfl) rfl) hst hm d wz WN wc (by omega) hn6 hd hd hm6 hx0.rw hx0.iw hcn'
  have hc7 : Hid (∀ s' w' cs, Mx M 59 d [.int .i64 0, .int .i64 0, .string ⟨#[]⟩, .bool false, .slice none 0 0, .slice none 0 0, .slice none 0 0, .slice none 0 0, .slice none 0 0, .slice none 0 0, .slice none 0 0, .slice none 0 0, .int .i64 0, .int .i64 0] s W cs s' w' → M.cnt s' + nL kz ≤ 1048576 → Calls Tryz.prog 113 #[.slice K kz.length kc, .func (.func 114) #[] #[.pointer (some ⟨W.heap.size, 0, none⟩), .pointer (some ⟨W.heap.size + 2, 0, none⟩)]] w' (MxPost M 59 d [.int .i64 0, .int .i64 0, .string ⟨#[]⟩, .bool false, .slice none 0 0, .slice none 0 0, .slice none 0 0, .slice none 0 0, .slice none 0 0, .slice none 0 0, .slice none 0 0, .slice none 0 0, .int .i64 0, .int .i64 0] s W cs .key d kz s' w')) :=
    fun s' w' cs hm hcn' => Mx.listKey h6 (enters_of Tryz.func114 (by kernel_rfl) rfl) hst hm d kz K kc (by omega) hn7 hd hd hm7 hx0.rk hx0.ik hcn'
  have Hn0 := Lib.hid hmd
  have ie := Lib.hid uIle
  have ik := Lib.hid uIlk
  have ig := Lib.hid uIlg
  have it := Lib.hid uIlt
  have ir := Lib.hid uIlr
  have is := Lib.hid uIls
  have iw := Lib.hid uIlw
  have i5 := Lib.hid uI59
  have Hcn := Lib.hid hcn
  clear hmd hcn hx0 h2 h4 h5 h6 hn1 hn2 hn4 hn3 hm3 hn5 hm5 hn6 hm6 hn7 hm7
  go_enter Tryz.func87, Tryz.ntmps87
  go_upto_region 1 with (fail)
  go_wp2_with (first
    | (refine wpList_load_one rfl 52 _ rfl _ Tryz.underlying52 rfl _ 4 _ _ _ rfl Hn0.out.b4 rfl ?_)
    | (go_at_call 99; refine (hc1.out _ _ _ Hn0.out).mono ?_; rintro e wc1 ⟨A1, y1, rfl, mm, tt, rr⟩; have Hm1 := Lib.hid mm; have R1 := Lib.hid rr; skip; clear mm tt rr )
    | (refine wpList_store_blk rfl 52 _ _ rfl _ 4 _ _ [.slice A1 tz.length tz.length] rfl rfl Hm1.out.b4 it.out (by simp) rfl ?_; intro wd1 hwd; obtain ⟨mm, tt⟩ := Hm1.out.set hB hwd; have Hn1 := Lib.hid mm; have R1' := Lib.hid (tt _ _ _ _ _ R1.out); clear mm tt hwd R1)
    | (refine wpList_load_one rfl 53 _ rfl _ Tryz.underlying53 rfl _ 5 _ _ _ rfl Hn1.out.b4 rfl ?_)
    | (go_at_call 100; refine (hc2.out _ _ _ Hn1.out).mono ?_; rintro e wc2 ⟨A2, y2, rfl, mm, tt, rr⟩; have Hm2 := Lib.hid mm; have R2 := Lib.hid rr; have R1'' := Lib.hid (tt _ _ _ _ _ R1'.out); clear mm tt rr R1')
    | (refine wpList_store_blk rfl 53 _ _ rfl _ 5 _ _ [.slice A2 rz.length rz.length] rfl rfl Hm2.out.b4 ir.out (by simp [setL]) rfl ?_; intro wd2 hwd; obtain ⟨mm, tt⟩ := Hm2.out.set hB hwd; have Hn2 := Lib.hid mm; have R1''' := Lib.hid (tt _ _ _ _ _ R1''.out); have R2' := Lib.hid (tt _ _ _ _ _ R2.out); clear mm tt hwd R1'' R2)
    | (refine wpList_load_one rfl 28 _ rfl _ Tryz.underlying28 rfl _ 7 _ _ _ rfl Hn2.out.b4 rfl ?_)
    | (go_at_call 20; refine (hc3.out _ _ _ Hn2.out (by have := Hcn.out; omega)).mono ?_; rintro e wc3 ⟨A3, y3, s3, rfl, mm, tt, vv, rr⟩; have Hm3 := Lib.hid mm; have R3 := Lib.hid rr; have V3 := Lib.hid vv; have R1'''' := Lib.hid (tt _ _ _ _ _ R1'''.out); have R2'' := Lib.hid (tt _ _ _ _ _ R2'.out); clear mm tt rr vv R1''' R2')
    | (refine wpList_store_blk rfl 28 _ _ rfl _ 7 _ _ [.slice A3 xz.length xz.length] rfl rfl Hm3.out.b4 ie.out (by simp [setL]) rfl ?_; intro wd3 hwd; obtain ⟨mm, tt⟩ := Hm3.out.set hB hwd; have Hn3 := Lib.hid mm; have R1''''' := Lib.hid (tt _ _ _ _ _ R1''''.out); have R2''' := Lib.hid (tt _ _ _ _ _ R2''.out); have R3' := Lib.hid (tt _ _ _ _ _ R3.out); clear mm tt hwd R1'''' R2'' R3)
    | (refine wpList_load_one rfl 54 _ rfl _ Tryz.underlying54 rfl _ 8 _ _ _ rfl Hn3.out.b4 rfl ?_)
    | (go_at_call 104; refine (hc4.out _ _ _ Hn3.out).mono ?_; rintro e wc4 ⟨A4, y4, rfl, mm, tt, rr⟩; have Hm4 := Lib.hid mm; have R4 := Lib.hid rr; have R1'''''' := Lib.hid (tt _ _ _ _ _ R1'''''.out); have R2'''' := Lib.hid (tt _ _ _ _ _ R2'''.out); have R3'' := Lib.hid (tt _ _ _ _ _ R3'.out); clear mm tt rr R1''''' R2''' R3')
    | (refine wpList_store_blk rfl 54 _ _ rfl _ 8 _ _ [.slice A4 sz.length sz.length] rfl rfl Hm4.out.b4 is.out (by simp [setL]) rfl ?_; intro wd4 hwd; obtain ⟨mm, tt⟩ := Hm4.out.set hB hwd; have Hn4 := Lib.hid mm; have R1''''''' := Lib.hid (tt _ _ _ _ _ R1''''''.out); have R2''''' := Lib.hid (tt _ _ _ _ _ R2''''.out); have R3''' := Lib.hid (tt _ _ _ _ _ R3''.out); have R4' := Lib.hid (tt _ _ _ _ _ R4.out); clear mm tt hwd R1'''''' R2'''' R3'' R4)
    | (refine wpList_load_one rfl 55 _ rfl _ Tryz.underlying55 rfl _ 9 _ _ _ rfl Hn4.out.b4 rfl ?_)
    | (go_at_call 107; refine (hc5.out _ _ _ Hn4.out (by have := Hcn.out; have := V3.out.2; omega)).mono ?_; rintro e wc5 ⟨A5, y5, s5, rfl, mm, tt, vv, rr⟩; have Hm5 := Lib.hid mm; have R5 := Lib.hid rr; have V5 := Lib.hid vv; have R1'''''''' := Lib.hid (tt _ _ _ _ _ R1'''''''.out); have R2'''''' := Lib.hid (tt _ _ _ _ _ R2'''''.out); have R3'''' := Lib.hid (tt _ _ _ _ _ R3'''.out); have R4'' := Lib.hid (tt _ _ _ _ _ R4'.out); clear mm tt rr vv R1''''''' R2''''' R3''' R4')
    | (refine wpList_store_blk rfl 55 _ _ rfl _ 9 _ _ [.slice A5 gz.length gz.length] rfl rfl Hm5.out.b4 ig.out (by simp [setL]) rfl ?_; intro wd5 hwd; obtain ⟨mm, tt⟩ := Hm5.out.set hB hwd; have Hn5 := Lib.hid mm; have R1''''''''' := Lib.hid (tt _ _ _ _ _ R1''''''''.out); have R2''''''' := Lib.hid (tt _ _ _ _ _ R2''''''.out); have R3''''' := Lib.hid (tt _ _ _ _ _ R3''''.out); have R4''' := Lib.hid (tt _ _ _ _ _ R4''.out); have R5' := Lib.hid (tt _ _ _ _ _ R5.out); clear mm tt hwd R1'''''''' R2'''''' R3'''' R4'' R5)
    | (refine wpList_load_one rfl 56 _ rfl _ Tryz.underlying56 rfl _ 10 _ _ _ rfl Hn5.out.b4 rfl ?_)
    | (go_at_call 110; refine (hc6.out _ _ _ Hn5.out (by have := Hcn.out; have := V3.out.2; have := V5.out.2; omega)).mono ?_; rintro e wc6 ⟨A6, y6, s6, rfl, mm, tt, vv, rr⟩; have Hm6 := Lib.hid mm; have R6 := Lib.hid rr; have V6 := Lib.hid vv; have R1'''''''''' := Lib.hid (tt _ _ _ _ _ R1'''''''''.out); have R2'''''''' := Lib.hid (tt _ _ _ _ _ R2'''''''.out); have R3'''''' := Lib.hid (tt _ _ _ _ _ R3'''''.out); have R4'''' := Lib.hid (tt _ _ _ _ _ R4'''.out); have R5'' := Lib.hid (tt _ _ _ _ _ R5'.out); clear mm tt rr vv R1''''''''' R2''''''' R3''''' R4''' R5')
    | (refine wpList_store_blk rfl 56 _ _ rfl _ 10 _ _ [.slice A6 wz.length wz.length] rfl rfl Hm6.out.b4 iw.out (by simp [setL]) rfl ?_; intro wd6 hwd; obtain ⟨mm, tt⟩ := Hm6.out.set hB hwd; have Hn6 := Lib.hid mm; have R1''''''''''' := Lib.hid (tt _ _ _ _ _ R1''''''''''.out); have R2''''''''' := Lib.hid (tt _ _ _ _ _ R2''''''''.out); have R3''''''' := Lib.hid (tt _ _ _ _ _ R3''''''.out); have R4''''' := Lib.hid (tt _ _ _ _ _ R4''''.out); have R5''' := Lib.hid (tt _ _ _ _ _ R5''.out); have R6' := Lib.hid (tt _ _ _ _ _ R6.out); clear mm tt hwd R1'''''''''' R2'''''''' R3'''''' R4'''' R5'' R6)
    | (refine wpList_load_one rfl 57 _ rfl _ Tryz.underlying57 rfl _ 11 _ _ _ rfl Hn6.out.b4 rfl ?_)
    | (go_at_call 113; refine (hc7.out _ _ _ Hn6.out (by have := Hcn.out; have := V3.out.2; have := V5.out.2; have := V6.out.2; omega)).mono ?_; rintro e wc7 ⟨A7, y7, s7, rfl, mm, tt, vv, rr⟩; have Hm7 := Lib.hid mm; have R7 := Lib.hid rr; have V7 := Lib.hid vv; have R1'''''''''''' := Lib.hid (tt _ _ _ _ _ R1'''''''''''.out); have R2'''''''''' := Lib.hid (tt _ _ _ _ _ R2'''''''''.out); have R3'''''''' := Lib.hid (tt _ _ _ _ _ R3'''''''.out); have R4'''''' := Lib.hid (tt _ _ _ _ _ R4'''''.out); have R5'''' := Lib.hid (tt _ _ _ _ _ R5'''.out); have R6'' := Lib.hid (tt _ _ _ _ _ R6'.out); clear mm tt rr vv R1''''''''''' R2''''''''' R3''''''' R4''''' R5''' R6')
    | (refine wpList_store_blk rfl 57 _ _ rfl _ 11 _ _ [.slice A7 kz.length kz.length] rfl rfl Hm7.out.b4 ik.out (by simp [setL]) rfl ?_; intro wd7 hwd; obtain ⟨mm, tt⟩ := Hm7.out.set hB hwd; have Hn7 := Lib.hid mm; have R1''''''''''''' := Lib.hid (tt _ _ _ _ _ R1''''''''''''.out); have R2''''''''''' := Lib.hid (tt _ _ _ _ _ R2''''''''''.out); have R3''''''''' := Lib.hid (tt _ _ _ _ _ R3''''''''.out); have R4''''''' := Lib.hid (tt _ _ _ _ _ R4''''''.out); have R5''''' := Lib.hid (tt _ _ _ _ _ R5''''.out); have R6''' := Lib.hid (tt _ _ _ _ _ R6''.out); have R7' := Lib.hid (tt _ _ _ _ _ R7.out); clear mm tt hwd R1'''''''''''' R2'''''''''' R3'''''''' R4'''''' R5'''' R6'' R7)
    | (refine wpList_load_part rfl 59 _ rfl _ Tryz.underlying59 rfl _ _ _ _ [.int .i64 k, .int .i64 op, .string nm, .bool all, .slice A1 tz.length tz.length, .slice A2 rz.length rz.length, .slice I iz.length ic, .slice A3 xz.length xz.length, .slice A4 sz.length sz.length, .slice A5 gz.length gz.length, .slice A6 wz.length wz.length, .slice A7 kz.length kz.length, .int .i64 off, .int .i64 cnt] rfl Hn7.out.b4 i5.out rfl ?_)
    | (refine wpList_store_blk rfl 59 _ _ rfl _ _ _ _ [.int .i64 k, .int .i64 op, .string nm, .bool all, .slice A1 tz.length tz.length, .slice A2 rz.length rz.length, .slice I iz.length ic, .slice A3 xz.length xz.length, .slice A4 sz.length sz.length, .slice A5 gz.length gz.length, .slice A6 wz.length wz.length, .slice A7 kz.length kz.length, .int .i64 off, .int .i64 cnt] rfl rfl Hn7.out.b6 i5.out (by simp) rfl ?_; intro wz' hwz))
  refine bodyPost_blk rfl (W.heap.size + 3) [.int .i64 k, .int .i64 op, .string nm, .bool all, .slice A1 tz.length tz.length, .slice A2 rz.length rz.length, .slice I iz.length ic, .slice A3 xz.length xz.length, .slice A4 sz.length sz.length, .slice A5 gz.length gz.length, .slice A6 wz.length wz.length, .slice A7 kz.length kz.length, .int .i64 off, .int .i64 cnt] _ rfl _ hwz.bk Tryz.underlying59 rfl i5.out rfl ?_
  obtain ⟨hf, tl⟩ := Hn7.out.ret hB hwz
  refine ⟨A1, A2, A3, A4, A5, A6, A7, y1, y2, y3, y4, y5, y6, y7, s7, rfl, hf, (((V3.out.tr V5.out).tr V6.out).tr V7.out).to (Nat.le_refl _) fun v => ?_, (tl _ _ _ _ _ R1'''''''''''''.out).lower (by omega), (tl _ _ _ _ _ R2'''''''''''.out).lower (by omega), (tl _ _ _ _ _ R3'''''''''.out).lower (by omega), (tl _ _ _ _ _ R4'''''''.out).lower (by omega), (tl _ _ _ _ _ R5'''''.out).lower (by omega), (tl _ _ _ _ _ R6'''.out).lower (by omega), (tl _ _ _ _ _ R7'.out).lower (by omega)⟩
  simp only [or_assoc]
end Go.Proofs.YthijagpnpcpcbaaGreat

