/-
  Aggregates, windows and keys, taken apart; how many expressions there are right in them. The expressions of an aggregate, walked.
-/
import Derived.Test.YtoeamomklmoncaaDtC
namespace Go.Proofs.Ytoeamomklmoncaa
open Go.RowKit
structure AggD (S : Nat → Prop) (w : World) (d : DT) (k at' : Int) (ds : Bool) (A : Option Addr) (cap : Nat) (az : List DT) (F : Option Addr) (fcap : Nat) (fs : List DT) : Prop where
  e : d = .node [.int .i64 k, .int .i64 at', .bool ds, .slice A az.length cap, .slice F fs.length fcap] [az, fs]
  ra : DRow S w 14 A cap az
  rf : DRow S w 14 F fcap fs
  ia : ∀ x, x ∈ az → DT.In S w .expr x
  if' : ∀ x, x ∈ fs → DT.In S w .expr x
theorem DT.In.agg {S : Nat → Prop} {w : World} {d : DT} (h : DT.In S w .agg d) : ∃ k at' ds A cap az F fcap fs, AggD S w d k at' ds A cap az F fcap fs := by
  cases h with
  | mk _ c kk hl h1 hok hk hr hx =>
    obtain ⟨az, fs, rfl⟩ := len2 hk
    obtain ⟨k, at', ds, v3, v4, rfl⟩ := hok
    obtain ⟨A, cap, eA, rA⟩ := hr 0 3 .expr az rfl rfl
    obtain ⟨F, fcap, eF, rF⟩ := hr 1 4 .expr fs rfl rfl
    simp at eA eF
    subst eA eF
    exact ⟨k, at', ds, A, cap, az, F, fcap, fs, rfl, rA, rF, hx 0 3 .expr az rfl rfl, hx 1 4 .expr fs rfl rfl⟩
structure WinD (S : Nat → Prop) (w : World) (d : DT) (k n : Int) (A : Option Addr) (cap : Nat) (az : List DT) (G : Option Addr) (gcap : Nat) (gs : List DT) (P : Option Addr) (pcap : Nat) (ps : List DT) (K : Option Addr) (kcap : Nat) (ks : List DT) (T : Option Addr) (tcap : Nat) (ts : List DT) (u fk fn tk tn : Int) : Prop where
  e : d = .node [.int .i64 k, .int .i64 n, .slice A az.length cap, .slice G gs.length gcap, .slice P ps.length pcap, .slice K ks.length kcap, .slice T ts.length tcap, .int .i64 u, .int .i64 fk, .int .i64 fn, .int .i64 tk, .int .i64 tn] [az, gs, ps, ks, ts]
  ra : DRow S w 14 A cap az
  rg : DRow S w 5 G gcap gs
  rp : DRow S w 14 P pcap ps
  rk : DRow S w 16 K kcap ks
  rt : DRow S w 16 T tcap ts
  ia : ∀ x, x ∈ az → DT.In S w .expr x
  ig : ∀ x, x ∈ gs → DT.In S w .agg x
  ip : ∀ x, x ∈ ps → DT.In S w .expr x
  ik : ∀ x, x ∈ ks → DT.In S w .key x
  it : ∀ x, x ∈ ts → DT.In S w .key x
theorem DT.In.win {S : Nat → Prop} {w : World} {d : DT} (h : DT.In S w .win d) : ∃ k n A cap az G gcap gs P pcap ps K kcap ks T tcap ts u fk fn tk tn, WinD S w d k n A cap az G gcap gs P pcap ps K kcap ks T tcap ts u fk fn tk tn := by
  cases h with
  | mk _ c kk hl h1 hok hk hr hx =>
    obtain ⟨az, gs, ps, ks, ts, rfl⟩ := len5' hk
    obtain ⟨k, n, v2, v3, v4, v5, v6, u, fk, fn, tk, tn, rfl⟩ := hok
    obtain ⟨A, cap, e2, r2⟩ := hr 0 2 .expr az rfl rfl
    obtain ⟨G, gcap, e3, r3⟩ := hr 1 3 .agg gs rfl rfl
    obtain ⟨P, pcap, e4, r4⟩ := hr 2 4 .expr ps rfl rfl
    obtain ⟨K, kcap, e5, r5⟩ := hr 3 5 .key ks rfl rfl
    obtain ⟨T, tcap, e6, r6⟩ := hr 4 6 .key ts rfl rfl
    simp at e2 e3 e4 e5 e6
    subst e2 e3 e4 e5 e6
    exact ⟨k, n, A, cap, az, G, gcap, gs, P, pcap, ps, K, kcap, ks, T, tcap, ts, u, fk, fn, tk, tn, rfl, r2, r3, r4, r5, r6, hx 0 2 .expr az rfl rfl, hx 1 3 .agg gs rfl rfl, hx 2 4 .expr ps rfl rfl, hx 3 5 .key ks rfl rfl, hx 4 6 .key ts rfl rfl⟩
/-- A key has an expression. -/
theorem DT.In.key {S : Nat → Prop} {w : World} {d : DT} (h : DT.In S w .key d) : DT.In S w .expr (keyE d) ∧ ∃ dn fi, d.c = (keyE d).c ++ [.bool dn, .bool fi] ∧ (keyE d).n = d.n := by
  cases h with
  | mk _ c kk hl h1 hok hk hr hx =>
    obtain ⟨a, v12, v13, dn, fi, rfl, ha⟩ := hok
    refine ⟨.mk .expr _ kk rfl (fun u hu => h1 u (List.mem_of_mem_take hu)) ⟨a, v12, v13, rfl, ha⟩ hk (fun i o s m h2 h3 => ?_) hx, dn, fi, rfl, ?_⟩
    · obtain ⟨A, cap, e, r⟩ := hr i o s m h2 h3
      refine ⟨A, cap, ?_, r⟩
      have ho : o = 12 ∨ o = 13 := by
        rcases i with _ | _ | i
        · simp [Ty.sl] at h2; exact .inl h2.1.symm
        · simp [Ty.sl] at h2; exact .inr h2.1.symm
        · simp [Ty.sl] at h2
      rcases ho with rfl | rfl <;> exact e
    · unfold keyE
      rw [DT.n_node, DT.n_node]
      rfl
theorem len_flat {f : DT → List DT} {l : List DT} (h : ∀ x, x ∈ l → (f x).length ≤ x.n) : (l.flatMap f).length ≤ nL l := by
  induction l with
  | nil => exact Nat.le_refl _
  | cons y l ih =>
    rw [List.flatMap_cons, List.length_append, nL_cons]
    have := h y (by simp)
    have := ih fun x hx => h x (by simp [hx])
    omega
theorem aggE_len (c : List Value) (az fs : List DT) : (aggE (.node c [az, fs])).length ≤ (DT.node c [az, fs]).n := by
  show (az ++ fs).length ≤ _
  rw [DT.n_node, List.length_append]
  have := len_nL az
  have := len_nL fs
  simp
  omega
theorem DT.In.aggLen {S : Nat → Prop} {w : World} {d : DT} (h : DT.In S w .agg d) : (aggE d).length ≤ d.n := by
  obtain ⟨k, at1, ds, A, cap, az, F, fcap, fs, hd⟩ := h.agg
  rw [hd.e]
  exact aggE_len _ _ _
theorem DT.In.winLen {S : Nat → Prop} {w : World} {d : DT} (h : DT.In S w .win d) : (winE d).length ≤ d.n := by
  obtain ⟨k, n, A, cap, az, G, gcap, gs, P, pcap, ps, K, kcap, ks, T, tcap, ts, u, fk, fn, tk, tn, hd⟩ := h.win
  rw [hd.e]
  show (az ++ gs.flatMap aggE ++ ps ++ (ks ++ ts).map keyE).length ≤ _
  rw [DT.n_node]
  have := len_nL az
  have := len_nL ps
  have := len_nL ks
  have := len_nL ts
  have := len_flat (f := aggE) (l := gs) fun x hx => (hd.ig x hx).aggLen
  simp at *
  omega
theorem DT.In.relLen {S : Nat → Prop} {w : World} {d : DT} (h : DT.In S w .rel d) : (relE d).length + 1 ≤ d.n := by
  obtain ⟨a, IA, icap, is, EA, ecap, es, GA, gcap, gs, WA, wcap, ws, KA, kcap, ks, hd⟩ := h.rel
  rw [hd.e]
  show (es ++ gs.flatMap aggE ++ ws.flatMap winE ++ ks.map keyE).length + 1 ≤ _
  rw [DT.n_node]
  have := len_nL es
  have := len_nL ks
  have := len_flat (f := aggE) (l := gs) fun x hx => (hd.ig x hx).aggLen
  have := len_flat (f := winE) (l := ws) fun x hx => (hd.iw x hx).winLen
  simp at *
  omega
theorem own_base {w : World} {B B' e size n : Nat} {v : Value} {xs : List Value} (h : w.ownsRow B e size v n xs) (hB : B' ≤ B) : w.ownsRow B' e size v n xs := by
  refine ⟨h.1, ?_⟩
  rcases h.2 with hn | ⟨g, cap, cur, e1, e2, rest⟩
  · exact .inl hn
  · exact .inr ⟨g, cap, cur, e1, by omega, rest⟩
/-- What gives expressions: a row of its own with the cells of the expressions. -/
def ExPost (l : List DT) (w : World) (e : Ending) (w' : World) : Prop := ∃ v, e = .returned v ∧ w'.ownsRow w.heap.size 49 14 v l.length (l.flatMap DT.c) ∧ Below w.heap.size w w'
set_option maxRecDepth 100000 in
set_option maxHeartbeats 1000000 in
theorem mexprsOfAgg_any (d : DT) (S : Nat → Prop) (w : World) (hd : DT.In S w .agg d) (hS : ∀ k, S k → k < w.heap.size) (hn : d.n ≤ 1048576) :
    Calls Try.prog 24 #[.agg d.c.toArray] w (ExPost (aggE d) w) := by
  have hl := hd.aggLen
  obtain ⟨k, at1, ds, A, cap, az, F, fcap, fs, h⟩ := hd.agg
  obtain ⟨he, ra, rf, ia, iff⟩ := h
  subst he
  have hf : ∀ x, x ∈ az ++ fs → x.c.length = 14 := fun x hx => by
    rcases List.mem_append.1 hx with hx | hx
    · exact (ia x hx).len
    · exact (iff x hx).len
  have h1 : ∀ x, x ∈ az ++ fs → ∀ u, u ∈ x.c → u.oneCell' = true := fun x hx => by
    rcases List.mem_append.1 hx with hx | hx
    · exact (ia x hx).ones
    · exact (iff x hx).ones
  have hlen : az.length + fs.length ≤ 1048576 := by
    have : (az ++ fs).length ≤ 1048576 := Nat.le_trans hl hn
    rw [List.length_append] at this
    exact this
  show Calls _ _ #[.agg #[.int .i64 k, .int .i64 at1, .bool ds, .slice A az.length cap, .slice F fs.length fcap]] _ (ExPost (az ++ fs) w)
  obtain ⟨al, hal⟩ : ∃ n, az.length = n := ⟨_, rfl⟩
  obtain ⟨fl, hfl⟩ : ∃ n, fs.length = n := ⟨_, rfl⟩
  have hcc : Hid (∀ W b, Below w.heap.size w W → W.cell? ⟨b, 0, none⟩ = some (.slice A al cap) → W.cell? ⟨b, 1, none⟩ = some (.slice F fl fcap) → Calls Try.prog 37 #[.slice (some ⟨b, 0, none⟩) 2 2] W (fun e w' => ∃ v, e = .returned v ∧ w'.ownsRow W.heap.size 49 14 v (az ++ fs).length ((az ++ fs).flatMap DT.c) ∧ Below W.heap.size W w')) := fun W b hb c0 c1 =>
    concatE_two A F cap fcap az fs b S W (ra.keep (fun k hk => hb.block k (hS k hk)) (fun _ h => h)) (rf.keep (fun k hk => hb.block k (hS k hk)) (fun _ h => h)) (fun k hk => Nat.lt_of_lt_of_le (hS k hk) hb.size) hf h1 hlen (by rw [hal]; exact c0) (by rw [hfl]; exact c1)
  rw [hal, hfl]
  clear hd hn hl ra rf ia iff hf h1 hlen hal hfl
  go_enter Try.func24, Try.ntmps24
  go_wp2_with fail
  generalize hW : World.alloc _ _ = W
  have hb : Below w.heap.size w W := by rw [← hW]; exact bel2 _ _ _
  have c0 : W.cell? ⟨w.heap.size + 1, 0, none⟩ = some (.slice A al cap) := by
    rw [← hW]
    simp
  have c1 : W.cell? ⟨w.heap.size + 1, 1, none⟩ = some (.slice F fl fcap) := by
    rw [← hW]
    simp
  refine (hcc.out W _ hb c0 c1).mono ?_
  rintro e w' ⟨v, rfl, hown, hb2⟩
  clear hW c0 c1
  go_wp2
  go_ret
  exact ⟨v, rfl, own_base hown hb.size, hb.trans (hb2.mono hb.size)⟩
end Go.Proofs.Ytoeamomklmoncaa
