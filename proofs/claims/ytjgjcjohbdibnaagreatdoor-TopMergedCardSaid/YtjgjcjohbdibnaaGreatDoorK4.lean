/- Walks of functions that braidtop.TopMerged reaches, each with what it computes, and the plain laws of what they compute, part 4. Conditions: those of each theorem (the arguments lie in blocks that no longer change, sizes as the law bounds them). Printed by a program of this claim and shortened by another: the names of two letters are abbreviations, explained where the first of them stand. -/
import Derived.Test.YtjgjcjohbdibnaaGreatDoorK3
set_option linter.all false
namespace Go.Brd
open Go Go.Brd Go.Proofs
set_option linter.unusedVariables false
theorem it_5_52 : intT Tryz.prog 5 52 .u64 = true := by kernel_rfl
theorem pl_f233 : plain Tryz.prog 233 = true := by kernel_rfl
theorem pow_mod_add (p a m n : Nat) : a ^ (m + n) % p = (a ^ m % p) * (a ^ n % p) % p := by rw [Nat.pow_add, Nat.mul_mod]
theorem inv_gen {p Q y e : Nat} (hp : 1 < p) (h : y ^ Q % p = 1) (he : e ≤ Q) (hQ : 1 ≤ Q) : (y ^ e % p) ^ (Q - 1) % p = y ^ (Q - e) % p := by
 have hX : (y ^ e % p) ^ (Q - 1) % p = y ^ (e * (Q - 1)) % p := by rw [← Nat.pow_mod, ← Nat.pow_mul]
 have h1 : (y ^ (e * (Q - 1)) % p) * (y ^ e % p) % p = 1 := by
  rw [← pow_mod_add]
  have : e * (Q - 1) + e = Q * e := by
   obtain ⟨q, rfl⟩ : ∃ q, Q = q + 1 := ⟨Q - 1, by omega⟩;rw [Nat.add_sub_cancel, Nat.add_mul, Nat.one_mul, Nat.mul_comm]
  rw [this, Nat.pow_mul, Nat.pow_mod, h, Nat.one_pow, Nat.mod_eq_of_lt hp]
 have h2 : (y ^ (Q - e) % p) * (y ^ e % p) % p = 1 := by
  rw [← pow_mod_add, Nat.sub_add_cancel he, h]
 rw [hX]
 generalize hx : y ^ (e * (Q - 1)) % p = X at h1 ⊢
 generalize hz : y ^ (Q - e) % p = Z at h2 ⊢
 generalize y ^ e % p = W at h1 h2
 have lx : X < p := by rw [← hx]; exact Nat.mod_lt _ af
 have lz : Z < p := by rw [← hz]; exact Nat.mod_lt _ af
 have e1 : X * (Z * W % p) % p = X := by rw [h2, Nat.mul_one, Nat.mod_eq_of_lt lx]
 have e2 : (X * W % p) * Z % p = Z := by rw [h1, Nat.one_mul, Nat.mod_eq_of_lt lz]
 rw [Nat.mul_mod_mod] at e1;rw [Nat.mod_mul_mod] at e2;have e3 : X * (Z * W) = X * W * Z := by rw [Nat.mul_comm Z W, Nat.mul_assoc]
 rw [e3] at e1;exact e1.symm.trans e2
theorem pow_one_gen {p Q y e : Nat} (hp : 1 < p) (h : y ^ Q % p = 1) : (y ^ e % p) ^ Q % p = 1 := by
 rw [← Nat.pow_mod, ← Nat.pow_mul, Nat.mul_comm, Nat.pow_mul, Nat.pow_mod, h, Nat.one_pow, Nat.mod_eq_of_lt hp]
theorem isG_iff {a : Nat} : isG a = true ↔ (0 < a ∧ a < 1000000007) ∧ powM a 500000003 = 1 := by simp only [isG, Bool.and_eq_true, decide_eq_true_eq]
theorem pow_one_at (Q : Nat) {y e : Nat} (h1 : powM y Q = 1) : powM (powM y e) Q = 1 := pow_one_gen ah h1
theorem inv_at (Q R : Nat) {y e : Nat} (hR : R = Q - 1) (h : powM y Q = 1) (he : e ≤ Q) (h1 : 1 ≤ Q) : powM (powM y e) R = powM y (Q - e) := by
 subst hR;exact inv_gen (Q := Q) ah h he h1
theorem zero_at (Q : Nat) (h : 0 < Q) : powM 0 Q = 0 := by unfold powM; rw [Nat.zero_pow h]
theorem isG_pow {y e : Nat} (h : isG y = true) : isG (powM y e) = true := by
 have h1 := (isG_iff.1 h).2;have h2 : powM (powM y e) 500000003 = 1 := pow_one_at _ h1;refine isG_iff.2 ⟨⟨?_, powM_lt _ _⟩, h2⟩;rcases Nat.eq_zero_or_pos (powM y e) with h0 | h0
 · rw [h0] at h2
   have : powM 0 500000003 = 0 := zero_at _ ah;rw [this] at h2; cases h2
 · exact h0
theorem isG_inv {y e : Nat} (h : isG y = true) (he : e ≤ 500000003) : powM (powM y e) 500000002 = powM y (500000003 - e) := inv_at _ _ ah (isG_iff.1 h).2 he ah
def be4 (n : Nat) : List UInt8 := [UInt8.ofNat (n / 16777216), UInt8.ofNat (n / 65536), UInt8.ofNat (n / 256), UInt8.ofNat n]
def numD (d : List UInt8) : Nat → Nat
 | 0 => 0
 | k + 1 => 256 * numD d k + byt d k
theorem numD_lt (d : List UInt8) : ∀ k, numD d k < 256 ^ k
 | 0 => Nat.one_pos
 | k + 1 => by
  have h1 := numD_lt d k; have h2 := byt_lt d k
  unfold numD; rw [Nat.pow_succ]; omega
theorem numD_lt7 (d : List UInt8) {k : Nat} (h : k < 8) : numD d k < 72057594037927936 := Nat.lt_of_lt_of_le (numD_lt d k) (show 256 ^ k ≤ 256 ^ 7 from Nat.pow_le_pow_right ah af)
theorem numD_lt8 (d : List UInt8) : numD d 8 < 18446744073709551616 := numD_lt d 8
def chalN (r y : Nat) (m : List UInt8) : Nat := numD (sha (99 :: (be4 r ++ (be4 y ++ m)))) 8 % 500000003
def nonceN (k : Nat) (m : List UInt8) : Nat := numD (sha (110 :: (be4 k ++ m))) 8 % 500000002 + 1
theorem chalN_lt (r y : Nat) (m : List UInt8) : chalN r y m < 500000003 := Nat.mod_lt _ ah
def sgnOk (y : Nat) (m : List UInt8) (e s : Nat) : Bool := decide (e < 500000003 ∧ s < 500000003) && decide (chalN (powM 4 s * powM y (500000003 - e) % 1000000007) y m = e)
def sgn (o : Op) : Bool := sgnOk o.author (msgB o) o.e o.s
def idOf (o : Op) : ID := sha (encB o)
theorem idOf_len (o : Op) : (idOf o).length = 32 := sha_len _
theorem be4_len (n : Nat) : (be4 n).length = 4 := rfl
theorem be4_C (n : Nat) : (be4 n).map u8C = [[.int .u8 ((n / 16777216 % 256 : Nat) : Int)], [.int .u8 ((n / 65536 % 256 : Nat) : Int)], [.int .u8 ((n / 256 % 256 : Nat) : Int)], [.int .u8 ((n % 256 : Nat) : Int)]] := by
 simp only [be4, List.map_cons, List.map_nil, u8C, u8_ofNat]
theorem ref_four {c : World} {h : GH} {L : Own} {n : Nat} (hn : n < 4294967296):
 Fun Tryz.prog c 232 #[.int .u32 (n : Int)] h L (fun u _ L' => ∃ N, L' = N ++ L ∧ OB u (be4 n) N) := by
 refine zS (N := 18) (args := [.int .u32 (n : Int)]) Tryz.func232 ?_;refine qg (qd ?_);refine qg (qg (quo_nat (b := 16777216) af (by rw [wrap_u32]; omega) ?_));refine qg (conv_u8 it_53_5 ?_);refine qg (qg (quo_nat (b := 65536) af (by rw [wrap_u32]; omega) ?_));refine qg (rem_nat (b := 256) af ?_);refine qg (conv_u8 it_53_5 ?_);rw [Nat.mod_mod];refine qg (qg (quo_nat (b := 256) af (by rw [wrap_u32]; omega) ?_));refine qg (rem_nat (b := 256) af ?_);refine qg (conv_u8 it_53_5 ?_);rw [Nat.mod_mod];refine qg (qg (rem_nat (b := 256) af ?_));refine qg (conv_u8 it_53_5 ?_);rw [Nat.mod_mod];refine qg (buildSliceO (ls := [[_], [_], [_], [_]]) sl_109 zc_5 (qy ac (qy ac (qy ac (qy ac Parts.nil)))) rfl rfl (all4 rfl rfl rfl rfl) (all4 rfl rfl rfl rfl) ah ah ?_);intro v17 N17 hv17;refine qg (qd ?_);refine DoRet.r1 (.tmp rfl) (qh (List.Sublist.append_left kS _)) zl ?_;exact ⟨N17, rfl, by unfold OB; rw [be4_C]; exact hv17⟩
theorem ref_number3 {c : World} {h : GH} {L : Own} {v0 : Value} {b : List UInt8} (hb0 : RBytes h v0 b) (hsm : b.length ≤ 20000):
 Fun Tryz.prog c 233 #[v0] h L (fun u _ L' => u = .int .u64 ((numD (sha b) 8 : Nat) : Int) ∧ L = L') := by
 refine zS (N := 20) (args := [v0]) Tryz.func233 ?_;refine qg (qd ?_);refine qg (qg (qc (ref_of hb0 hsm) ?_));rintro v7 h2 L_ le1 ⟨rfl, rfl⟩;have hwl := sha_len b;have hcl : (idC (sha b)).length = 32 := by rw [idC_length, sha_len]
 generalize sha b = w at hwl hcl ⊢
 refine qg (qa zc_74 ?_);intro b3;refine qg (kB (l' := idC w) si_74 ac hcl (idC_one _) kR ab (over_all (by rw [hcl, List.length_replicate])) kR.symm ?_);refine qd ?_;refine qg (qd ?_);refine qg (qd ?_);refine qL (fun s0 nn s' h' L' => ∃ (k : Nat), s' = [(4, .int .u64 ((numD w k : Nat) : Int)), (5, .int .i64 k)] ++ qR s0 [3] ∧ nn = 8 - k ∧ (b3, .cells (idC w).toArray 74 (0, 0)) :: L = L' ∧ k ≤ 8) ⟨0, rfl, rfl, rfl, ?_⟩ zg zl zn ?_
 · exact Nat.zero_le _
 rintro nn s1 h3 L_ le4 ⟨k, rfl, rfl, rfl, hk⟩;refine qg (qg (lssB (fun c9 => ?_) (fun c9 => ?_)))
 ·
  have hkl : k < 8 := by omega
  have hnl := numD_lt7 w hkl;have hby := byt_at (b := w) (k := k) af;have hbl := byt_lt w k;refine qd ?_;refine qg (qg (mul_u64n (a := 256) af ?_));refine qg (qg (indexArr_own (k := k) ar_74 ao ap ?_));refine qg (qO (v := .int .u8 ((byt w k : Nat) : Int)) sc_5 kH (by rw [Nat.zero_add, Nat.mul_one]; have := map_get (f := u8V) hby; rw [u8_ofNat, Nat.mod_eq_of_lt hbl] at this; exact this) ?_);refine qg (conv_u64 it_5_52 af ?_);refine qg (add_u64n af ?_);refine qg (qd ?_);refine qg (qg (qA ak ?_));refine qg (qd ?_);exact back (m := _) ⟨k + 1, rfl, rfl, rfl, by omega⟩ af zg zl zn
 ·
  have hk8 : k = 8 := by omega
  subst hk8;refine qd ?_;refine qg (qg (qd ?_));refine DoRet.r1 (.tmp rfl) (qh (zu kS)) zl ?_;exact ⟨rfl, rfl⟩
theorem ref_challenge {c : World} {h : GH} {L : Own} {r y : Nat} {v0 : Value} {m : List UInt8} (hr : r < 4294967296) (hy : y < 4294967296) (hb0 : RBytes h v0 m) (hsm : m.length ≤ 10000):
 Fun Tryz.prog c 208 #[.int .u32 (r : Int), .int .u32 (y : Int), v0] h L (fun u _ L' => u = .int .u32 ((chalN r y m : Nat) : Int) ∧ L = L') := by
 refine zS (N := 21) (args := [.int .u32 (r : Int), .int .u32 (y : Int), v0]) Tryz.func208 ?_;refine qg (qd ?_);refine qg (buildSliceO (ls := [[.int .u8 99]]) sl_109 zc_5 (qy ac Parts.nil) rfl rfl (all1 rfl) (all1 rfl) ah ah ?_);intro v8 N8 hv8;refine qg (qg (qc (Fun.frozen (by rw [List.length_map, be4_len]; decide) (ref_four aa)) ?_));rintro v10 h2 L_ le1 ⟨rfl, hv10⟩;replace hb0 := hb0.mono le1;refine qg (qp sl_109 sl_109 z_5 aa hv10 kR (by simp [be4_len]) ?_);intro v11 N11 hv11;refine ⟨_, kR.symm, ?_⟩;refine qg (qg (qc (Fun.frozen (by rw [List.length_map, be4_len]; decide) (ref_four aa)) ?_));rintro v13 h4 L_ le3 ⟨rfl, hv13⟩;replace hb0 := hb0.mono le3;refine qg (qp sl_109 sl_109 z_5 aa hv13 kR (by simp [be4_len]) ?_);intro v14 N14 hv14;refine ⟨_, kR.symm, ?_⟩;refine qg (qd ?_);refine qg (qg (qg (qp sl_109 sl_109 z_5 aa hb0 kR (by simp [be4_len]; omega) ?_)));intro v17 N17 hv17;refine ⟨_, kR.symm, ?_⟩;refine qg (DoCall.freeze pl_f233 hv17 (by simp [be4_len]; omega) kR ?_);intro h5 le6 hv17;refine qc (ref_number3 (b := 99 :: (be4 r ++ (be4 y ++ m))) (by have h0 := hv17; have e9 : u8C 99 = [.int .u8 99] := rfl; simp only [RBytes, List.map_cons, List.map_append, e9]; simpa using h0) (by simp [be4_len]; omega)) ?_;rintro v18 h8 L_ le7 ⟨rfl, rfl⟩;have hn8 := numD_lt8 (sha (99 :: (be4 r ++ (be4 y ++ m))));refine qg (rem_nat (b := 500000003) ah ?_);refine qg (conv_u32n it_52_53 (Nat.lt_trans (Nat.mod_lt _ ah) ah) ?_);refine qg (qd ?_);refine ze rfl ?_;exact ⟨rfl, rfl⟩
theorem ref_right {c : World} {h : GH} {L : Own} {y e s : Nat} {v0 : Value} {m : List UInt8} (hy : isG y = true) (he : e < 4294967296) (hs : s < 4294967296) (hb0 : RBytes h v0 m) (hsm : m.length ≤ 10000):
 Fun Tryz.prog c 158 #[.int .u32 (y : Int), v0, .agg [.int .u32 (e : Int), .int .u32 (s : Int)].toArray] h L (fun u _ L' => u = .bool (sgnOk y m e s) ∧ L = L') := by
 have hyl := isG_lt hy;have hy32 : y < 4294967296 := by omega
 refine zS (N := 39) (args := [.int .u32 (y : Int), v0, .agg [.int .u32 (e : Int), .int .u32 (s : Int)].toArray]) Tryz.func158 ?_;refine qg (box_at rfl ?_);intro p5 h2 le1 hp5;replace hb0 := hb0.mono le1;refine qg (qd ?_);refine qg (qf fi_59_0 aa ?_);intro p9 hp9;refine qg (ql sc_53 aa ?_);refine qg (qc (ref_exponent he) ?_);rintro v11 h4 L_ le3 ⟨rfl, rfl⟩;replace hb0 := hb0.mono le3; replace hp5 := hp5.mono le3;obtain ⟨be, hbe⟩ : ∃ b, decide (e < 500000003) = b := ⟨_, rfl⟩;rw [hbe];cases be
 ·
  refine qg (not_ff ?_);refine qg (qk rfl rfl ?_);refine qk rfl rfl ?_;refine qk rfl rfl ?_;refine qk rfl rfl ?_;refine qg (qd ?_);refine qg (qd ?_);refine ze rfl ?_;exact ⟨by unfold sgnOk; rw [decide_eq_false (fun h => by have := of_decide_eq_false hbe; omega)]; rfl, rfl⟩
 ·
  refine qg (not_tt ?_);refine qg (kG rfl rfl ?_);refine qf fi_59_1 aa ?_;intro p14 hp14;refine kG rfl rfl ?_;refine ql sc_53 aa ?_;refine kG rfl rfl ?_;refine qc (ref_exponent hs) ?_;rintro v16 h6 L_ le5 ⟨rfl, rfl⟩;replace hb0 := hb0.mono le5; replace hp5 := hp5.mono le5;obtain ⟨bs, hbs⟩ : ∃ b, decide (s < 500000003) = b := ⟨_, rfl⟩;rw [hbs];cases bs
  ·
   refine kG rfl rfl ?_;refine not_ff ?_;refine qg (qd ?_);refine qg (qd ?_);refine ze rfl ?_;exact ⟨by unfold sgnOk; rw [decide_eq_false (p := e < 500000003 ∧ s < 500000003) (fun h => by have := of_decide_eq_false hbs; omega)]; rfl, rfl⟩
  ·
   have hel := of_decide_eq_true hbe;have hsl := of_decide_eq_true hbs;have hgi := isG_pow (e := e) hy;have hinv := isG_inv (e := e) hy af;have hp1 := powM_lt y e;have hp2 := powM_lt 4 s;have hp3 := powM_lt y (500000003 - e);refine kG rfl rfl ?_;refine not_tt ?_;refine qg (qd ?_);refine qg (qg (qf fi_59_0 aa ?_));intro p21 hp21;refine qg (ql sc_53 aa ?_);refine qg (conv_u64 it_53_52 af ?_);refine qg (qc (ref_raised (n := e) hy32 af) ?_);rintro v24 h8 L_ le7 ⟨rfl, rfl⟩;replace hb0 := hb0.mono le7; replace hp5 := hp5.mono le7;refine qg (qc (ref_inv (a := powM y e) af) ?_);rintro v25 h10 L_ le9 ⟨rfl, rfl⟩;replace hb0 := hb0.mono le9; replace hp5 := hp5.mono le9;rw [if_pos hgi, hinv];refine qg (qg (qg (qg (qg (qd ?_)))));refine qD mixed [] [0, 1, 3, 5, 6, 8, 9, 2, 4, 7, 10, 11] [] ae sub_nil ?_;refine qr rfl rfl rfl (qf fi_59_1 aa ?_);intro p28 hp28;refine qr rfl rfl rfl (ql sc_53 aa ?_);refine qr rfl rfl rfl (qr rfl rfl rfl (qr rfl rfl rfl (qr rfl rfl rfl (qf fi_59_0 aa ?_))));intro p36 hp36;refine qr rfl rfl rfl (ql sc_53 aa ?_);refine qj rfl rfl rfl ?_;refine qc (ref_key hs) ?_;rintro v30 h12 L_ le11 ⟨rfl, rfl⟩;replace hb0 := hb0.mono le11;refine ⟨am, ?_⟩;refine qj rfl rfl rfl ?_;refine qc (ref_product (a := powM 4 s) (b := powM y (500000003 - e)) af af) ?_;rintro v32 h14 L_ le13 ⟨rfl, rfl⟩;replace hb0 := hb0.mono le13;refine ⟨am, ?_⟩;refine qj rfl rfl rfl ?_;refine qc (ref_challenge (r := powM 4 s * powM y (500000003 - e) % 1000000007) (y := y) (Nat.lt_trans (Nat.mod_lt _ ah) ah) hy32 hb0 hsm) ?_;rintro v35 h16 L_ le15 ⟨rfl, rfl⟩;refine ⟨am, ?_⟩;refine qr rfl rfl rfl (eqlB (fun c38 => ?_) (fun c38 => ?_))
   ·
    refine qr rfl rfl rfl (qe zf ?_);refine ze rfl ?_;have hc : chalN (powM 4 s * powM y (500000003 - e) % 1000000007) y m = e := by omega
    exact ⟨by unfold sgnOk; rw [decide_eq_true (p := e < 500000003 ∧ s < 500000003) ⟨hel, hsl⟩, decide_eq_true hc]; rfl, rfl⟩
   ·
    refine qr rfl rfl rfl (qe zf ?_);refine ze rfl ?_;have hc : ¬ chalN (powM 4 s * powM y (500000003 - e) % 1000000007) y m = e := by omega
    exact ⟨by unfold sgnOk; rw [decide_eq_false hc, Bool.and_false], rfl⟩
end Go.Brd
namespace Go.Brd
open Go Go.Brd Go.Proofs
set_option linter.unusedVariables false
theorem ag_59 : aggN Tryz.prog 59 2 = true := by kernel_rfl
theorem pl_f105 : plain Tryz.prog 105 = true := by kernel_rfl
theorem pl_f158 : plain Tryz.prog 158 = true := by kernel_rfl
theorem opOk_unsig {o : Op} (h : opOk o = true) : OpOk (unsig o) := (opOk_iff.1 h).unsig
abbrev gV (iv ov : Value) : Value := .agg [iv, ov].toArray
def fst1 (xs : List (Op × Value)) : List Op := xs.map Prod.fst
theorem fst1_len (xs : List (Op × Value)) : (fst1 xs).length = xs.length := by simp [fst1]
theorem fst1_at {xs : List (Op × Value)} {k : Nat} {x : Op × Value} (h : xs[k]? = some x) : (fst1 xs)[k]? = some x.1 := map_get h
structure GOk (l : List Op) : Prop where
 small : l.length ≤ 60
 ok : ∀ o ∈ l, opOk o = true ∧ sgn o = true
 ris : risB (l.map idOf) = true
 closed : ∀ o ∈ l, ∀ p ∈ o.preds, p ∈ l.map idOf
 rank : ∃ f : ID → Nat, ∀ o ∈ l, ∀ p ∈ o.preds, f p < f (idOf o)
structure OrdI (ids : List ID) (ops : List Op) (out : List Nat) : Prop where
 nd : out.Nodup
 lt : ∀ i ∈ out, i < ops.length
 pre : ∀ j i o, out[j]? = some i → ops[i]? = some o → ∀ p ∈ o.preds, p ∈ (out.take j).map fun i => ids.getD i []
theorem OrdI.nil (ids : List ID) (ops : List Op) : OrdI ids ops [] := ⟨List.nodup_nil, by simp, by simp⟩
theorem OrdI.snoc {ids : List ID} {ops : List Op} {out : List Nat} {i : Nat} {o : Op} (h : OrdI ids ops out) (hi : i ∉ out) (ho : ops[i]? = some o) (hp : ∀ p ∈ o.preds, p ∈ out.map fun i => ids.getD i []) : OrdI ids ops (out ++ [i]) := by
 have hlt := (List.getElem?_eq_some_iff.1 ho).1;refine ⟨?_, ?_, ?_⟩
 · rw [List.nodup_append]
   refine ⟨h.nd, by simp, fun a ha b hb => ?_⟩;have : b = i := by simpa using hb
   subst this;intro e; subst e; exact hi ha
 · intro x hx
   rcases List.mem_append.1 hx with hx | hx
   · exact h.lt x hx
   · have : x = i := by simpa using hx
     omega
 · intro j x ox hj hox p hpm
   rcases Nat.lt_or_ge j out.length with hl | hl
   · rw [List.getElem?_append_left hl] at hj
     have := h.pre j x ox hj hox p hpm;rw [List.take_append_of_le_length af]; exact this
   · rw [List.getElem?_append_right hl] at hj
     have hj0 : j - out.length = 0 := by
      have := (List.getElem?_eq_some_iff.1 hj).1;simp at this; omega
     rw [hj0] at hj;simp at hj;subst hj;rw [ho] at hox; cases hox;rw [List.take_append_of_le_length af, List.take_of_length_le af];exact hp p hpm
theorem nodup_inj {α : Type} {l : List α} (hn : l.Nodup) {i j : Nat} {x : α} (hi : l[i]? = some x) (hj : l[j]? = some x) : i = j := by
 obtain ⟨h1, e1⟩ := List.getElem?_eq_some_iff.1 hi;obtain ⟨h2, e2⟩ := List.getElem?_eq_some_iff.1 hj;have hp := List.pairwise_iff_getElem.1 hn;rcases Nat.lt_trichotomy i j with h | h | h
 · exact absurd (e1.trans e2.symm) (hp i j h1 h2 h)
 · exact h
 · exact absurd (e2.trans e1.symm) (hp j i h2 h1 h)
theorem nodup_le : ∀ (n : Nat) (out : List Nat), out.Nodup → (∀ i ∈ out, i < n) → out.length ≤ n
 | 0, [], _, _ => Nat.le_refl _
 | 0, a :: r, _, h => by have := h a am; omega
 | n + 1, out, hn, h => by
  have h1 := nodup_le n (out.erase n) (hn.erase n) (fun i hi => by
   have h2 := h i (List.mem_of_mem_erase hi);have h3 : i ≠ n := fun e => by subst e; exact ((List.Nodup.mem_erase_iff hn).1 hi).1 rfl
   omega)
  have h2 : out.length ≤ (out.erase n).length + 1 := by rw [List.length_erase]; split <;> omega
  omega
theorem nodup_full {out : List Nat} {n : Nat} (hnd : out.Nodup) (hlt : ∀ i ∈ out, i < n) (hlen : out.length = n) : ∀ i, i < n → i ∈ out := by
 intro i hi;by_cases hm : i ∈ out
 · exact hm
 · have := nodup_le n (i :: out) (List.nodup_cons.2 ⟨hm, hnd⟩) (fun x hx => by
    rcases List.mem_cons.1 hx with rfl | hx
    · exact hi
    · exact hlt x hx)
   simp at this; omega
theorem OrdI.rank {ids : List ID} {ops : List Op} {out : List Nat} (h : OrdI ids ops out) (hn : ids.Nodup) (hl : ids.length = ops.length) (hlen : out.length = ops.length) :
 ∃ f : ID → Nat, ∀ (k : Nat) (o : Op) (i : ID), ops[k]? = some o → ids[k]? = some i → ∀ p ∈ o.preds, f p < f i := by
 refine ⟨fun x => (out.map fun i => ids.getD i []).idxOf x, fun k o i ho hi p hp => ?_⟩;have hk := (List.getElem?_eq_some_iff.1 ho).1;have hm := nodup_full h.nd h.lt hlen k hk;obtain ⟨j, hj, e⟩ := List.getElem_of_mem hm;have hj' : out[j]? = some k := by rw [List.getElem?_eq_getElem hj, e]
 have hpre := h.pre j k o hj' ho p hp
 have hT : (out.map fun i => ids.getD i []).Nodup := by
  rw [List.Nodup, List.pairwise_map];refine h.nd.imp_of_mem (fun {a b} ha hb hne he => ?_);have h1 := h.lt a ha; have h2 := h.lt b hb
  have g1 : ids[a]? = some (ids.getD a []) := by rw [List.getD_eq_getElem?_getD, List.getElem?_eq_getElem af]; rfl
  have g2 : ids[b]? = some (ids.getD a []) := by rw [he, List.getD_eq_getElem?_getD, List.getElem?_eq_getElem af]; rfl
  exact hne (nodup_inj hn g1 g2)
 have hTj : (out.map fun i => ids.getD i [])[j]? = some i := by
  rw [List.getElem?_map, hj', Option.map_some, List.getD_eq_getElem?_getD, hi]; rfl
 have e1 : (out.map fun i => ids.getD i []).idxOf i = j := by
  obtain ⟨hlt, he⟩ := List.getElem?_eq_some_iff.1 hTj;rw [← he]; exact List.Nodup.idxOf_getElem hT j hlt
 show List.idxOf p _ < List.idxOf i _;rw [e1];rw [List.map_take] at hpre;have := List.idxOf_lt_length_of_mem hpre;have h3 : ((out.map fun i => ids.getD i []).take j ++ (out.map fun i => ids.getD i []).drop j).idxOf p = ((out.map fun i => ids.getD i []).take j).idxOf p := by rw [List.idxOf_append, if_pos hpre]
 rw [List.take_append_drop] at h3;rw [h3];have h4 : ((out.map fun i => ids.getD i []).take j).length ≤ j := by simp; omega
 omega
theorem ltB_of {x y : ID} (h : Lib.compareBytes x y < 0) : x ≠ y := fun e => by rw [(cmp_id_iff).2 e] at h; omega
def dones (n : Nat) (out : List Nat) : List Bool := (List.range n).map fun i => decide (i ∈ out)
theorem dones_at {n i : Nat} (out : List Nat) (h : i < n) : (dones n out)[i]? = some (decide (i ∈ out)) := by
 unfold dones; rw [List.getElem?_map, List.getElem?_range h]; rfl
theorem dones_set {n i : Nat} (out : List Nat) : (dones n out).set i true = dones n (out ++ [i]) := by
 apply List.ext_getElem?;intro j;unfold dones;rw [List.getElem?_set];rcases Nat.lt_or_ge j n with hj | hj
 · rw [List.getElem?_map, List.getElem?_map, List.getElem?_range hj]
   by_cases e : i = j
   · subst e; simp; omega
   · rw [if_neg e]; simp [Ne.symm e]
 · rw [List.getElem?_eq_none (by simpa using hj : ((List.range n).map _).length ≤ j), List.getElem?_eq_none (by simpa using hj)]
   split
   · split
     · simp at *; omega
     · rfl
   · rfl
theorem dones_nil (n : Nat) : dones n [] = List.replicate n false := by unfold dones; simp [List.map_const']
theorem dones_setC {n i : Nat} (out : List Nat) : ((dones n out).map bC).set i [.bool true] = (dones n (out ++ [i])).map bC := by rw [← dones_set, List.map_set]; rfl
theorem ref_signed6 {c : World} {h : GH} {L : Own} {o : Op} {pv : Value} (ho : opOk o = true) (hw : OpWF o) (hp : RIds h pv o.preds):
 Fun Tryz.prog c 104 #[opV o pv] h L (fun u _ L' => u = .bool (sgn o) ∧ L = L') := by
 have hk := opOk_iff.1 ho;have hml := msgB_len hk.unsig hp.len32;refine zS (N := 10) (args := [.agg (opC2 o pv).toArray]) Tryz.func104 ?_;refine qg (box_at rfl ?_);intro p1 h2 le1 hp1;replace hp := hp.mono le1;refine qg (qd ?_);refine qD mixed [] [0, 1, 2, 4, 5, 3, 6, 7] [] ae sub_nil ?_;refine qr rfl rfl rfl (qf fi_61_0 aa ?_);intro p3 hp3;refine qr rfl rfl rfl (ql sc_53 aa ?_);refine qr rfl rfl rfl (qX ag_61 aa ag ?_);refine qr rfl rfl rfl (qf fi_61_4 aa ?_);intro p7 hp7;refine qr rfl rfl rfl (qX ag_59 aa ag ?_);refine qj rfl rfl rfl ?_;refine qc (ref_text6 hk.unsig hw hp) ?_;rintro v6 h4 L_ le3 ⟨N6, rfl, hv6⟩;refine ⟨am, ?_⟩;refine qj rfl rfl rfl ?_;refine DoCall.freeze pl_f158 hv6 al kR ?_;intro h5 le6 hv6;refine qc (ref_right (y := o.author) (e := o.e) (s := o.s) (m := msgB o) hk.author hw.e hw.s hv6 af) ?_;rintro v9 h8 L_ le7 ⟨rfl, rfl⟩;refine ⟨am, ?_⟩;refine qr rfl rfl rfl (qe zf ?_);refine ze rfl ?_;exact ⟨rfl, rfl⟩
theorem ref_verify6 {c : World} {h : GH} {L : Own} {o : Op} {pv : Value} (hw : OpWF o) (hp : RIds h pv o.preds):
 Fun Tryz.prog c 61 #[opV o pv] h L (fun u _ L' => (∃ e : Int, u = .int .i64 e ∧ (e = 0 ↔ (opOk o = true ∧ sgn o = true))) ∧ L = L') := by
 refine zS (N := 11) (args := [.agg (opC2 o pv).toArray]) Tryz.func61 ?_;refine qg (box_at rfl ?_);intro p1 h2 le1 hp1;replace hp := hp.mono le1;refine qg (qd ?_);refine qg (qX ag_61 aa ag ?_);refine qg (qc (ref_check6 hw hp) ?_);rintro v4 h4 L_ le3 ⟨⟨e4, rfl, he4⟩, rfl⟩;replace hp := hp.mono le3; replace hp1 := hp1.mono le3;refine qg (neqB (fun c5 => ?_) (fun c5 => ?_))
 ·
  refine qd ?_;refine qg (qX ag_61 aa ag ?_);refine qg (qc (ref_check6 hw hp) ?_);rintro v7 h6 L_ le5 ⟨⟨e7, rfl, he7⟩, rfl⟩;refine qg (qd ?_);refine ze rfl ?_;exact ⟨⟨_, rfl, ⟨fun h0 => absurd (he4.2 (he7.1 h0)) c5, fun h0 => absurd (he4.2 h0.1) c5⟩⟩, rfl⟩
 ·
  refine qd ?_;refine qg (qX ag_61 aa ag ?_);refine qg (qc (ref_signed6 (he4.1 af) hw hp) ?_);rintro v9 h8 L_ le7 ⟨rfl, rfl⟩;obtain ⟨bs, hbs⟩ : ∃ b, sgn o = b := ⟨_, rfl⟩;rw [hbs];cases bs
  ·
   refine qg (not_ff ?_);refine qd ?_;refine qg (qd ?_);refine ze rfl ?_;exact ⟨⟨_, rfl, ⟨fun h0 => by omega, fun h0 => by cases h0.2⟩⟩, rfl⟩
  ·
   refine qg (not_tt ?_);refine qd ?_;refine qg (qd ?_);refine ze rfl ?_;exact ⟨⟨_, rfl, ⟨fun _ => ⟨he4.1 af, rfl⟩, fun _ => rfl⟩⟩, rfl⟩
theorem ref_of6 {c : World} {h : GH} {L : Own} {o : Op} {pv : Value} (ho : opOk o = true) (hw : OpWF o) (hp : RIds h pv o.preds):
 Fun Tryz.prog c 62 #[opV o pv] h L (fun u _ L' => u = idV (idOf o) ∧ L = L') := by
 have hk := opOk_iff.1 ho;have hml := msgB_len hk.unsig hp.len32;have hn1 := numB_len o.e;have hn2 := numB_len o.s;refine zS (N := 6) (args := [.agg (opC2 o pv).toArray]) Tryz.func62 ?_;refine qg (box_at rfl ?_);intro p1 h2 le1 hp1;replace hp := hp.mono le1;refine qg (qa zc_74 ?_);intro b2;refine qd ?_;refine qg (qX ag_61 aa ag ?_);refine qg (qc (ref_bytes6 hk hw hp) ?_);rintro v4 h4 L_ le3 ⟨N4, rfl, hv4⟩;refine qg (DoCall.freeze pl_f105 hv4 (by rw [List.length_map]; unfold encB; simp only [List.length_append]; omega) kR ?_);intro h5 le6 hv4;refine qc (ref_of (b := encB o) hv4 (by unfold encB; simp only [List.length_append]; omega)) ?_;rintro v5 h8 L_ le7 ⟨rfl, rfl⟩;have hcl : (idC (idOf o)).length = 32 := by rw [idC_length, idOf_len]
 rw [show sha (encB o) = idOf o from rfl]
 generalize idOf o = w at hcl ⊢
 refine qg (kB (l' := idC w) si_74 ac hcl (idC_one _) kR ab (over_all (by rw [hcl, List.length_replicate])) kR.symm ?_);refine qd ?_;refine DoRet.r1 (.cell rfl (qx (r := idC w) ag_74 kH (by rw [hcl]; decide) (by rw [List.drop_zero, List.take_of_length_le (by rw [hcl]; decide)]) rfl)) (qh (zu kS)) zl ?_;exact ⟨rfl, rfl⟩
end Go.Brd
namespace Go.Brd
open Go Go.Brd Go.Proofs
set_option linter.unusedVariables false
theorem fi_25_0 : fieldIs Tryz.prog 25 0 0 = true := by kernel_rfl
theorem fi_25_1 : fieldIs Tryz.prog 25 1 1 = true := by kernel_rfl
theorem pl_f6 : plain Tryz.prog 6 = true := by kernel_rfl
theorem sc_23 : scalar Tryz.prog 23 = true := by kernel_rfl
theorem sc_4 : scalar Tryz.prog 4 = true := by kernel_rfl
theorem si_4 : sizeIs Tryz.prog 4 1 = true := by kernel_rfl
theorem sl_159 : sliceOf Tryz.prog 159 3 1 = true := by kernel_rfl
theorem sl_23 : sliceOf Tryz.prog 23 61 11 = true := by kernel_rfl
theorem sl_77 : sliceOf Tryz.prog 77 4 1 = true := by kernel_rfl
theorem un_77 : Tryz.prog.underlying 77 = some (.slice 4) := by kernel_rfl
theorem z_3 : zeroIs Tryz.prog 3 1 = true := by kernel_rfl
theorem z_4 : zeroIs Tryz.prog 4 1 = true := by kernel_rfl
theorem zv_4 : zeroV Tryz.prog 4 = some (.bool false) := by kernel_rfl
theorem ref_great6 {c : World} {h : GH} {L : Own} {o : Op} {pv : Value} (hw : OpWF o) (hp : RIds h pv o.preds):
 Fun Tryz.prog c 60 #[opV o pv] h L (fun u _ L' => (∃ b : Bool, u = .bool b) ∧ L = L') := by
 refine zS (N := 22) (args := [.agg (opC2 o pv).toArray]) Tryz.func60 ?_;refine qg (box_at rfl ?_);intro p1 h2 le1 hp1;replace hp := hp.mono le1;refine qg (qd ?_);refine qg (qf fi_61_1 aa ?_);intro p3 hp3;refine qg (ql sc_22 aa ?_);refine qg (qm sl_22 aa ?_);refine qg (gtrB (fun c6 => ?_) (fun c6 => ?_))
 ·
  refine qg (qk rfl rfl ?_);refine qk rfl rfl ?_;refine qk rfl rfl ?_;refine qk rfl rfl ?_;refine qk rfl rfl ?_;refine qg (qg (qk rfl rfl ?_));refine qk rfl rfl ?_;refine qk rfl rfl ?_;refine qk rfl rfl ?_;refine qk rfl rfl ?_;refine qk rfl rfl ?_;refine qg (qg (qd ?_));refine ze rfl ?_;exact ⟨⟨_, rfl⟩, rfl⟩
 ·
  refine qg (kG rfl rfl ?_);refine qf fi_61_3 aa ?_;intro p8 hp8;refine kG rfl rfl ?_;refine qf fi_57_1 aa ?_;intro p9 hp9;refine kG rfl rfl ?_;refine ql sc_9 aa ?_;refine kG rfl rfl ?_;refine len_str un_9 ?_;refine kG rfl rfl ?_;refine gtrB (fun c12 => ?_) (fun c12 => ?_)
  ·
   refine qg (qg (qk rfl rfl ?_));refine qk rfl rfl ?_;refine qk rfl rfl ?_;refine qk rfl rfl ?_;refine qk rfl rfl ?_;refine qk rfl rfl ?_;refine qg (qg (qd ?_));refine ze rfl ?_;exact ⟨⟨_, rfl⟩, rfl⟩
  ·
   refine qg (qg (kG rfl rfl ?_));refine qf fi_61_3 aa ?_;intro p15 hp15;refine kG rfl rfl ?_;refine qf fi_57_2 aa ?_;intro p16 hp16;refine kG rfl rfl ?_;refine qf fi_55_3 aa ?_;intro p17 hp17;refine kG rfl rfl ?_;refine ql sc_9 aa ?_;refine kG rfl rfl ?_;refine len_str un_9 ?_;refine kG rfl rfl ?_;refine gtrB (fun c20 => ?_) (fun c20 => ?_)
   ·
    refine qg (qg (qd ?_));refine ze rfl ?_;exact ⟨⟨_, rfl⟩, rfl⟩
   ·
    refine qg (qg (qd ?_));refine ze rfl ?_;exact ⟨⟨_, rfl⟩, rfl⟩
theorem ref_great9 {c : World} {h : GH} {L : Own} {iv ov : Value} {ids : List ID} {xs : List (Op × Value)} (hi : RIds h iv ids) (ho : ROps h ov xs):
 Fun Tryz.prog c 22 #[gV iv ov] h L (fun u _ L' => (∃ b : Bool, u = .bool b ∧ (b = false → ¬ (16 < xs.length ∧ xs.length ≤ 60))) ∧ L = L') := by
 have hsm := ho.sl.small; rw [List.length_map] at hsm;have hsi := hi.small; rw [List.length_map] at hsi;refine zS (N := 43) (args := [gV iv ov]) Tryz.func22 ?_;refine qg (box_at rfl ?_);intro p1 h2 le1 hp1;replace hi := hi.mono le1; replace ho := ho.mono le1;refine qg (qd ?_);refine qg (qd ?_);refine qL (fun s0 nn s' h' L' => ∃ (k : Nat), s' = [(3, .int .i64 k)] ++ qR s0 [1] ∧ nn = xs.length - k ∧ L = L' ∧ k ≤ xs.length) ⟨0, rfl, rfl, rfl, ?_⟩ zg zl zn ?_
 · exact Nat.zero_le _
 rintro nn s1 h3 L_ le4 ⟨k, rfl, rfl, rfl, hk⟩;replace hi := hi.mono le4; replace ho := ho.mono le4; replace hp1 := hp1.mono le4;refine qg (qg (qf fi_25_1 aa ?_));intro p5 hp5;refine qg (ql sc_23 aa ?_);refine qg (qm sl_23 (ROps.sl aa) ?_);refine qg (lssB (fun c8 => ?_) (fun c8 => ?_))
 ·
  refine qg (qT rfl rfl ?_);refine qT rfl rfl ?_;refine leqB (fun c11 => ?_) (fun c11 => ?_)
  ·
   have hkl : k < xs.length := by omega
   obtain ⟨x, hx⟩ := qE hkl;have hr := ho.each x (List.mem_of_getElem? hx);refine qg (qd ?_);refine qg (qf fi_25_1 aa ?_);intro p15 hp15;refine qg (ql sc_23 aa ?_);refine qg (qg (qi (k := k) sl_23 ho.sl ao hx ?_));intro p18 r18 hl18 hp18;refine qg (qP ag_61 aa aa ?_);refine qg (qc (ref_great6 (o := x.1) (pv := x.2) hr.wf (hr.preds.mono zl)) ?_);rintro v20 h6 L_ le5 ⟨⟨bg, rfl⟩, rfl⟩;cases bg
   ·
    refine qd ?_;refine qg (qg (qA ak ?_));refine qg (qd ?_);exact back (m := _) ⟨k + 1, rfl, rfl, rfl, by omega⟩ af zg zl zn
   ·
    refine qd ?_;refine qg (qd ?_);refine ze rfl ?_;exact ⟨⟨_, rfl, fun h0 => by first | omega | exact absurd h0 ah⟩, rfl⟩
  ·
   refine qg (qd ?_);refine qg (qf fi_25_1 aa ?_);intro p21 hp21;refine qg (ql sc_23 aa ?_);refine qg (qm sl_23 (ROps.sl aa) ?_);refine qg (gtrB (fun c24 => ?_) (fun c24 => ?_))
   ·
    refine qg (qT rfl rfl ?_);refine qf fi_25_1 aa ?_;intro p26 hp26;refine qT rfl rfl ?_;refine ql sc_23 aa ?_;refine qT rfl rfl ?_;refine qm sl_23 (ROps.sl aa) ?_;refine qT rfl rfl ?_;refine leqB (fun c29 => ?_) (fun c29 => ?_)
    ·
     refine qg (qg (qk rfl rfl ?_));refine qk rfl rfl ?_;refine qk rfl rfl ?_;refine qk rfl rfl ?_;refine qg (qg (qk rfl rfl ?_));refine qk rfl rfl ?_;refine qk rfl rfl ?_;refine qk rfl rfl ?_;refine qg (qg (qd ?_));refine ze rfl ?_;exact ⟨⟨_, rfl, fun h0 => by first | omega | exact absurd h0 ah⟩, rfl⟩
    ·
     refine qg (qg (kG rfl rfl ?_));refine qf fi_25_1 aa ?_;intro p32 hp32;refine kG rfl rfl ?_;refine ql sc_23 aa ?_;refine kG rfl rfl ?_;refine qm sl_23 (ROps.sl aa) ?_;refine kG rfl rfl ?_;refine gtrB (fun c35 => ?_) (fun c35 => ?_)
     ·
      refine qg (qg (qk rfl rfl ?_));refine qk rfl rfl ?_;refine qk rfl rfl ?_;refine qk rfl rfl ?_;refine qg (qg (qd ?_));refine ze rfl ?_;exact ⟨⟨_, rfl, fun h0 => by first | omega | exact absurd h0 ah⟩, rfl⟩
     ·
      refine qg (qg (kG rfl rfl ?_));refine qf fi_25_0 aa ?_;intro p38 hp38;refine kG rfl rfl ?_;refine ql sc_22 aa ?_;refine kG rfl rfl ?_;refine qm sl_22 aa ?_;refine kG rfl rfl ?_;refine gtrB (fun c41 => ?_) (fun c41 => ?_)
      ·
       refine qg (qg (qd ?_));refine ze rfl ?_;exact ⟨⟨_, rfl, fun h0 => by first | omega | exact absurd h0 ah⟩, rfl⟩
      ·
       refine qg (qg (qd ?_));refine ze rfl ?_;exact ⟨⟨_, rfl, fun h0 => by first | omega | exact absurd h0 ah⟩, rfl⟩
   ·
    refine qg (DoOps.skipT rfl rfl ?_);refine DoOps.skipT rfl rfl ?_;refine DoOps.skipT rfl rfl ?_;refine DoOps.skipT rfl rfl ?_;refine qg (qg (kG rfl rfl ?_));refine qf fi_25_1 aa ?_;intro p32 hp32;refine kG rfl rfl ?_;refine ql sc_23 aa ?_;refine kG rfl rfl ?_;refine qm sl_23 (ROps.sl aa) ?_;refine kG rfl rfl ?_;refine gtrB (fun c35 => ?_) (fun c35 => ?_)
    ·
     refine qg (qg (qk rfl rfl ?_));refine qk rfl rfl ?_;refine qk rfl rfl ?_;refine qk rfl rfl ?_;refine qg (qg (qd ?_));refine ze rfl ?_;exact ⟨⟨_, rfl, fun h0 => by first | omega | exact absurd h0 ah⟩, rfl⟩
    ·
     refine qg (qg (kG rfl rfl ?_));refine qf fi_25_0 aa ?_;intro p38 hp38;refine kG rfl rfl ?_;refine ql sc_22 aa ?_;refine kG rfl rfl ?_;refine qm sl_22 aa ?_;refine kG rfl rfl ?_;refine gtrB (fun c41 => ?_) (fun c41 => ?_)
     ·
      refine qg (qg (qd ?_));refine ze rfl ?_;exact ⟨⟨_, rfl, fun h0 => by first | omega | exact absurd h0 ah⟩, rfl⟩
     ·
      refine qg (qg (qd ?_));refine ze rfl ?_;exact ⟨⟨_, rfl, fun h0 => by first | omega | exact absurd h0 ah⟩, rfl⟩
 ·
  refine qg (DoOps.skipT rfl rfl ?_);refine DoOps.skipT rfl rfl ?_;refine qg (qd ?_);refine qg (qf fi_25_1 aa ?_);intro p21 hp21;refine qg (ql sc_23 aa ?_);refine qg (qm sl_23 (ROps.sl aa) ?_);refine qg (gtrB (fun c24 => ?_) (fun c24 => ?_))
  ·
   refine qg (qT rfl rfl ?_);refine qf fi_25_1 aa ?_;intro p26 hp26;refine qT rfl rfl ?_;refine ql sc_23 aa ?_;refine qT rfl rfl ?_;refine qm sl_23 (ROps.sl aa) ?_;refine qT rfl rfl ?_;refine leqB (fun c29 => ?_) (fun c29 => ?_)
   ·
    refine qg (qg (qk rfl rfl ?_));refine qk rfl rfl ?_;refine qk rfl rfl ?_;refine qk rfl rfl ?_;refine qg (qg (qk rfl rfl ?_));refine qk rfl rfl ?_;refine qk rfl rfl ?_;refine qk rfl rfl ?_;refine qg (qg (qd ?_));refine ze rfl ?_;exact ⟨⟨_, rfl, fun h0 => by first | omega | exact absurd h0 ah⟩, rfl⟩
   ·
    refine qg (qg (kG rfl rfl ?_));refine qf fi_25_1 aa ?_;intro p32 hp32;refine kG rfl rfl ?_;refine ql sc_23 aa ?_;refine kG rfl rfl ?_;refine qm sl_23 (ROps.sl aa) ?_;refine kG rfl rfl ?_;refine gtrB (fun c35 => ?_) (fun c35 => ?_)
    ·
     refine qg (qg (qk rfl rfl ?_));refine qk rfl rfl ?_;refine qk rfl rfl ?_;refine qk rfl rfl ?_;refine qg (qg (qd ?_));refine ze rfl ?_;exact ⟨⟨_, rfl, fun h0 => by first | omega | exact absurd h0 ah⟩, rfl⟩
    ·
     refine qg (qg (kG rfl rfl ?_));refine qf fi_25_0 aa ?_;intro p38 hp38;refine kG rfl rfl ?_;refine ql sc_22 aa ?_;refine kG rfl rfl ?_;refine qm sl_22 aa ?_;refine kG rfl rfl ?_;refine gtrB (fun c41 => ?_) (fun c41 => ?_)
     ·
      refine qg (qg (qd ?_));refine ze rfl ?_;exact ⟨⟨_, rfl, fun h0 => by first | omega | exact absurd h0 ah⟩, rfl⟩
     ·
      refine qg (qg (qd ?_));refine ze rfl ?_;exact ⟨⟨_, rfl, fun h0 => by first | omega | exact absurd h0 ah⟩, rfl⟩
  ·
   refine qg (DoOps.skipT rfl rfl ?_);refine DoOps.skipT rfl rfl ?_;refine DoOps.skipT rfl rfl ?_;refine DoOps.skipT rfl rfl ?_;refine qg (qg (kG rfl rfl ?_));refine qf fi_25_1 aa ?_;intro p32 hp32;refine kG rfl rfl ?_;refine ql sc_23 aa ?_;refine kG rfl rfl ?_;refine qm sl_23 (ROps.sl aa) ?_;refine kG rfl rfl ?_;refine gtrB (fun c35 => ?_) (fun c35 => ?_)
   ·
    refine qg (qg (qk rfl rfl ?_));refine qk rfl rfl ?_;refine qk rfl rfl ?_;refine qk rfl rfl ?_;refine qg (qg (qd ?_));refine ze rfl ?_;exact ⟨⟨_, rfl, fun h0 => by first | omega | exact absurd h0 ah⟩, rfl⟩
   ·
    refine qg (qg (kG rfl rfl ?_));refine qf fi_25_0 aa ?_;intro p38 hp38;refine kG rfl rfl ?_;refine ql sc_22 aa ?_;refine kG rfl rfl ?_;refine qm sl_22 aa ?_;refine kG rfl rfl ?_;refine gtrB (fun c41 => ?_) (fun c41 => ?_)
    ·
     refine qg (qg (qd ?_));refine ze rfl ?_;exact ⟨⟨_, rfl, fun h0 => by first | omega | exact absurd h0 ah⟩, rfl⟩
    ·
     refine qg (qg (qd ?_));refine ze rfl ?_;exact ⟨⟨_, rfl, fun h0 => by first | omega | exact absurd h0 ah⟩, rfl⟩
theorem ref_order9 {c : World} {h : GH} {L : Own} {iv ov : Value} {ids : List ID} {xs : List (Op × Value)} (hi : RIds h iv ids) (ho : ROps h ov xs) (hl : ids.length = xs.length) (hs60 : xs.length ≤ 60):
 Fun Tryz.prog c 108 #[gV iv ov] h L (fun u _ L' => ∃ out N, L' = N ++ L ∧ OS 3 1 u (out.map natC) N ∧ OrdI ids (fst1 xs) out) := by
 have hsm := ho.sl.small; rw [List.length_map] at hsm;have hsi := hi.small; rw [List.length_map] at hsi;have hfl := fst1_len xs;have h32 := hi.len32;refine zS (N := 51) (args := [gV iv ov]) Tryz.func108 ?_;refine qg (box_at rfl ?_);intro p1 h2 le1 hp1;replace hi := hi.mono le1; replace ho := ho.mono le1;refine qg (qd ?_);refine qg (qd ?_);refine qg (qd ?_);refine qg (qf fi_25_1 aa ?_);intro p8 hp8;refine qg (ql sc_23 aa ?_);refine qg (qm sl_23 (ROps.sl aa) ?_);refine qg (make_own (k := xs.length) un_77 (zero1_of zv_4 z_4 si_4 rfl) rfl ao rfl af ?_);intro v11 N11 hv11;refine qg (qd ?_);refine qg (qd ?_);refine qL (fun s0 nn s' h' L' => ∃ (out : List Nat) (v : Value) (w : Value) (No : Own) (Nt : Own) (Nd : Own) (bb : Bool) (q : Nat), s' = [(3, v), (4, w), (6, .bool bb)] ++ qR s0 [1, 5] ∧ nn = q + 0 ∧ Nt ++ (No ++ (Nd ++ L)) = L' ∧ q = 2 * (xs.length - out.length) + bb.toNat ∧ OrdI ids (fst1 xs) out ∧ OS 3 1 v ((out).map natC) No ∧ OS 74 32 w (((out).map fun i => ids.getD i []).map idC) Nt ∧ OS 4 1 v11 ((dones xs.length (out)).map bC) Nd) ⟨[], _, _, [], [], N11, true, 2 * xs.length + 1, rfl, rfl, rfl, ?_⟩ zg zl zn ?_
 · refine ⟨by simp, OrdI.nil _ _, OS.nil _ _, OS.nil _ _, ?_⟩
   rw [dones_nil, List.map_replicate]; exact hv11
 rintro nn s1 h3 L_ le4 ⟨out, v, w, No, Nt, Nd, bb, q, rfl, rfl, rfl, hq, hord, hvo, hvt, hvd⟩;replace hi := hi.mono le4; replace ho := ho.mono le4; replace hp1 := hp1.mono le4;refine qg (qd ?_);cases bb
 ·
  refine qg (qg (qd ?_));refine DoRet.r1 (.tmp rfl) (qh (List.Sublist.trans (List.Sublist.append_left (List.Sublist.trans kS (List.sublist_append_right _ _)) _) (List.sublist_append_right _ _))) zl ?_;exact ⟨out, No, rfl, hvo, hord⟩
 ·
  have hq2 : nn = 2 * (xs.length - out.length) + 1 := hq;refine qg (qd ?_);refine qg (qd ?_);refine qL (fun s0 nn s' h' L' => ∃ (i : Nat), s' = [(3, v), (4, w), (6, .bool false), (7, .int .i64 i)] ++ qR s0 [1, 5] ∧ nn = xs.length - i ∧ Nt ++ (No ++ (Nd ++ L)) = L' ∧ i ≤ xs.length) ⟨0, rfl, rfl, rfl, ?_⟩ zg zl zn ?_
  · exact Nat.zero_le _
  rintro nn s1 h5 L_ le6 ⟨i, rfl, rfl, rfl, hil⟩;replace hi := hi.mono le6; replace ho := ho.mono le6; replace hp1 := hp1.mono le6;refine qg (qg (qf fi_25_1 aa ?_));intro p14 hp14;refine qg (ql sc_23 aa ?_);refine qg (qm sl_23 (ROps.sl aa) ?_);refine qg (lssB (fun c17 => ?_) (fun c17 => ?_))
  ·
   have hkl : i < xs.length := by omega
   obtain ⟨x, hx⟩ := qE hkl;have hr := ho.each x (List.mem_of_getElem? hx);have hpp := hr.preds;have hdi := dones_at out hkl;obtain ⟨bd, hbd⟩ : ∃ b, decide (i ∈ out) = b := ⟨_, rfl⟩;rw [hbd] at hdi;have hiid : ids[i]? = some (ids.getD i []) := by rw [List.getD_eq_getElem?_getD, List.getElem?_eq_getElem af]; rfl
   have hid32 := h32 _ (List.mem_of_getElem? hiid);have holen := nodup_le xs.length out hord.nd (by have := hord.lt; rw [hfl] at this; exact this);refine qd ?_;refine qg (qg (qg (index_os (k := i) sl_77 aa ao (by simp [dones]; omega) ?_)));intro p22 hp22;refine qg (load_os1 sc_4 aa aa (fun e he => (zq (zq (List.mem_append_left _ he)))) (map_get hdi) an ?_);cases bd
   ·
    refine qg (not_ff ?_);refine qg (qT rfl rfl ?_);refine qT rfl rfl ?_;refine qf fi_25_1 aa ?_;intro p27 hp27;refine qT rfl rfl ?_;refine ql sc_23 aa ?_;refine qT rfl rfl ?_;refine qT rfl rfl ?_;refine qi (k := i) sl_23 ho.sl ao hx ?_;intro p30 r30 hl30 hp30;refine qT rfl rfl ?_;refine qf fi_61_1 aa ?_;intro p31 hp31;refine qT rfl rfl ?_;refine ql sc_22 aa ?_;refine qT rfl rfl ?_;refine DoCall.borrow pl_f6 hvt ar kR (fun hB leB hbB => ref_all hbB (hpp.mono leB)) ?_;rintro v33 h8 le7 rfl;replace hi := hi.mono le7; replace hp1 := hp1.mono le7;obtain ⟨ba, hba⟩ : ∃ b, decide (∀ p ∈ x.1.preds, p ∈ out.map fun i => ids.getD i []) = b := ⟨_, rfl⟩;rw [hba];cases ba
    ·
     refine qg (qd ?_);refine qg (qg (qA ak ?_));refine qg (qd ?_);exact back (m := _) ⟨i + 1, rfl, rfl, rfl, by omega⟩ af zg zl zn
    ·
     have hni := of_decide_eq_false hbd;have hall := of_decide_eq_true hba;have hord2 := hord.snoc hni (fst1_at hx) hall;have hlen2 := nodup_le xs.length (out ++ [i]) hord2.nd (by have := hord2.lt; rw [hfl] at this; exact this);rw [List.length_append] at hlen2;have hlen3 : out.length + 1 ≤ xs.length := hlen2;refine qg (qd ?_);refine DoDraw.cut (fun s0 s' h' L' => ∃ (v2 : Value) (w2 : Value) (No2 : Own) (Nt2 : Own) (Nd2 : Own), s' = [(3, v2), (4, w2), (6, .bool true)] ++ qR s0 [1, 5] ∧ Nt2 ++ (No2 ++ (Nd2 ++ L)) = L' ∧ OS 3 1 v2 ((out ++ [i]).map natC) No2 ∧ OS 74 32 w2 (((out ++ [i]).map fun i => ids.getD i []).map idC) Nt2 ∧ OS 4 1 v11 ((dones xs.length (out ++ [i])).map bC) Nd2) ?_ ?_
     ·
      refine DoDraw.intros mixed [0, 1, 2, 3, 6, 7, 8, 9, 10, 11, 4, 5, 12, 13, 14, 15, 16, 17, 18] [[0, 1, 2, 3, 6, 7, 8, 9, 10, 11, 4, 12, 5, 13, 14, 15, 16, 17, 18], [0, 1, 2, 3, 6, 7, 8, 9, 10, 11, 12, 4, 5, 13, 14, 15, 16, 17, 18]] [] ae am (fcons ?_ (fcons ?_ (fcons ?_ fnil)))
      ·
       refine qf fi_25_0 aa ?_;intro p42 hp42;refine ql sc_22 aa ?_;refine qi (k := i) sl_22 aa af hiid ?_;intro p45 r45 hl45 hp45;refine qP ag_74 aa aa ?_;refine qB sl_159 z_3 rfl ag ah aj ?_;intro v39 h10 le9 hv39;refine ⟨am, ?_⟩;refine qp sl_159 sl_159 z_3 aa aa ((za kR).trans (List.perm_append_comm_assoc _ _ _)) ar ?_;intro v40 N40 hv40;refine ⟨_, ((za kR).trans (List.perm_append_comm_assoc _ _ _)).symm, ?_⟩;refine ⟨am, ?_⟩;refine qB sl_22 z_74 rfl ag ah aj ?_;intro v47 h12 le11 hv47;refine ⟨am, ?_⟩;refine qp sl_22 sl_22 z_74 aa aa kR ar ?_;intro v48 N48 hv48;refine ⟨_, kR.symm, ?_⟩;refine ⟨am, ?_⟩;refine index_os (k := i) sl_77 aa ao (by simp [dones]; omega) ?_;intro p49 hp49;refine store_os si_4 ac ai ad aa hvd (map_get hdi) ((za ((za kR).trans (List.perm_append_comm_assoc _ _ _))).trans (List.perm_append_comm_assoc _ _ _)) ab rfl ?_;clear hvd; intro M13 hvd; refine ⟨_, ((za ((za kR).trans (List.perm_append_comm_assoc _ _ _))).trans (List.perm_append_comm_assoc _ _ _)).symm, ?_⟩;refine ⟨am, ?_⟩;exact ⟨_, zn, v40, v48, _, _, _, rfl, rfl, by simpa [natC] using hv40, by simpa using hv48, by rw [← dones_setC]; exact hvd⟩
      ·
       refine qf fi_25_0 aa ?_;intro p42 hp42;refine ql sc_22 aa ?_;refine qi (k := i) sl_22 aa af hiid ?_;intro p45 r45 hl45 hp45;refine qP ag_74 aa aa ?_;refine qB sl_159 z_3 rfl ag ah aj ?_;intro v39 h15 le14 hv39;refine ⟨am, ?_⟩;refine qB sl_22 z_74 rfl ag ah aj ?_;intro v47 h17 le16 hv47;replace hv39 := hv39.mono le16;refine ⟨am, ?_⟩;refine qp sl_159 sl_159 z_3 aa aa ((za kR).trans (List.perm_append_comm_assoc _ _ _)) ar ?_;intro v40 N40 hv40;refine ⟨_, ((za kR).trans (List.perm_append_comm_assoc _ _ _)).symm, ?_⟩;refine ⟨am, ?_⟩;refine qp sl_22 sl_22 z_74 aa aa kR ar ?_;intro v48 N48 hv48;refine ⟨_, kR.symm, ?_⟩;refine ⟨am, ?_⟩;refine index_os (k := i) sl_77 aa ao (by simp [dones]; omega) ?_;intro p49 hp49;refine store_os si_4 ac ai ad aa hvd (map_get hdi) ((za ((za kR).trans (List.perm_append_comm_assoc _ _ _))).trans (List.perm_append_comm_assoc _ _ _)) ab rfl ?_;clear hvd; intro M18 hvd; refine ⟨_, ((za ((za kR).trans (List.perm_append_comm_assoc _ _ _))).trans (List.perm_append_comm_assoc _ _ _)).symm, ?_⟩;refine ⟨am, ?_⟩;exact ⟨_, zn, v40, v48, _, _, _, rfl, rfl, by simpa [natC] using hv40, by simpa using hv48, by rw [← dones_setC]; exact hvd⟩
      ·
       refine qf fi_25_0 aa ?_;intro p42 hp42;refine ql sc_22 aa ?_;refine qi (k := i) sl_22 aa af hiid ?_;intro p45 r45 hl45 hp45;refine qP ag_74 aa aa ?_;refine qB sl_22 z_74 rfl ag ah aj ?_;intro v47 h20 le19 hv47;refine ⟨am, ?_⟩;refine qB sl_159 z_3 rfl ag ah aj ?_;intro v39 h22 le21 hv39;replace hv47 := hv47.mono le21;refine ⟨am, ?_⟩;refine qp sl_159 sl_159 z_3 aa aa ((za kR).trans (List.perm_append_comm_assoc _ _ _)) ar ?_;intro v40 N40 hv40;refine ⟨_, ((za kR).trans (List.perm_append_comm_assoc _ _ _)).symm, ?_⟩;refine ⟨am, ?_⟩;refine qp sl_22 sl_22 z_74 aa aa kR ar ?_;intro v48 N48 hv48;refine ⟨_, kR.symm, ?_⟩;refine ⟨am, ?_⟩;refine index_os (k := i) sl_77 aa ao (by simp [dones]; omega) ?_;intro p49 hp49;refine store_os si_4 ac ai ad aa hvd (map_get hdi) ((za ((za kR).trans (List.perm_append_comm_assoc _ _ _))).trans (List.perm_append_comm_assoc _ _ _)) ab rfl ?_;clear hvd; intro M23 hvd; refine ⟨_, ((za ((za kR).trans (List.perm_append_comm_assoc _ _ _))).trans (List.perm_append_comm_assoc _ _ _)).symm, ?_⟩;refine ⟨am, ?_⟩;exact ⟨_, zn, v40, v48, _, _, _, rfl, rfl, by simpa [natC] using hv40, by simpa using hv48, by rw [← dones_setC]; exact hvd⟩
     ·
      rintro s1 h24 L_ le25 ⟨v2, w2, No2, Nt2, Nd2, rfl, rfl, hvo2, hvt2, hvd2⟩;exact back (m := _) ⟨out ++ [i], v2, w2, No2, Nt2, Nd2, true, 2 * (xs.length - (out.length + 1)) + 1, rfl, rfl, rfl, by simp, hord2, hvo2, hvt2, hvd2⟩ af zg zl zn
   ·
    refine qg (not_tt ?_);refine qg (DoOps.skipT rfl rfl ?_);refine DoOps.skipT rfl rfl ?_;refine DoOps.skipT rfl rfl ?_;refine DoOps.skipT rfl rfl ?_;refine DoOps.skipT rfl rfl ?_;refine DoOps.skipT rfl rfl ?_;refine DoOps.skipT rfl rfl ?_;refine DoOps.skipT rfl rfl ?_;refine qg (qd ?_);refine qg (qg (qA ak ?_));refine qg (qd ?_);exact back (m := _) ⟨i + 1, rfl, rfl, rfl, by omega⟩ af zg zl zn
  ·
   refine qd ?_;exact back (m := _) ⟨out, v, w, No, Nt, Nd, false, 2 * (xs.length - out.length), rfl, rfl, rfl, rfl, hord, hvo, hvt, hvd⟩ af zg zl zn
end Go.Brd
namespace Go.Brd
open Go Go.Brd Go.Proofs
set_option linter.unusedVariables false
theorem ag_25 : aggN Tryz.prog 25 2 = true := by kernel_rfl
theorem cmp_trans : ∀ {x y z : List UInt8}, Lib.compareBytes x y < 0 → Lib.compareBytes y z < 0 → Lib.compareBytes x z < 0
 | [], [], _, h, _ => by simp [Lib.compareBytes] at h
 | [], _ :: _, [], _, h => by simp [Lib.compareBytes] at h
 | [], _ :: _, _ :: _, _, _ => by simp [Lib.compareBytes]
 | _ :: _, [], _, h, _ => by simp [Lib.compareBytes] at h
 | _ :: _, _ :: _, [], _, h => by simp [Lib.compareBytes] at h
 | a :: x, b :: y, c :: z, h1, h2 => by
  simp only [Lib.compareBytes] at h1 h2 ⊢;by_cases hab : a < b
  · by_cases hbc : b < c
    · rw [if_pos (UInt8.lt_trans hab hbc)]; decide
    · rw [if_neg hbc] at h2
      by_cases hcb : c < b
      · rw [if_pos hcb] at h2; simp at h2
      · have : b = c := UInt8.toNat_inj.1 (by rw [UInt8.lt_iff_toNat_lt] at hbc hcb; omega)
        subst this; rw [if_pos hab]; decide
  · rw [if_neg hab] at h1
    by_cases hba : b < a
    · rw [if_pos hba] at h1; simp at h1
    · rw [if_neg hba] at h1
      have : a = b := UInt8.toNat_inj.1 (by rw [UInt8.lt_iff_toNat_lt] at hab hba; omega);subst this;by_cases hbc : a < c
      · rw [if_pos hbc]; decide
      · rw [if_neg hbc] at h2 ⊢
        by_cases hcb : c < a
        · rw [if_pos hcb] at h2; simp at h2
        · rw [if_neg hcb] at h2 ⊢
          exact cmp_trans h1 h2
theorem risB_cons {x : ID} {l : List ID} (h : risB (x :: l) = true) : risB l = true := risB_true (fun k a b ha hb => risB_at h (k := k + 1) (by simpa using ha) (by simpa using hb))
theorem risB_pairwise : ∀ {l : List ID}, risB l = true → l.Pairwise (fun x y => Lib.compareBytes x y < 0)
 | [], _ => List.Pairwise.nil
 | [x], _ => List.pairwise_singleton _ _
 | x :: y :: l, h => by
  have ih := risB_pairwise (risB_cons h);have hxy := risB_at h (k := 0) (x := x) (y := y) rfl rfl;refine List.pairwise_cons.2 ⟨fun z hz => ?_, ih⟩;rcases List.mem_cons.1 hz with rfl | hz
  · exact hxy
  · exact cmp_trans hxy ((List.pairwise_cons.1 ih).1 z hz)
theorem risB_nodup {l : List ID} (h : risB l = true) : l.Nodup := (risB_pairwise h).imp fun h e => ltB_of h e
theorem GOk.of {ids : List ID} {ops : List Op} {out : List Nat} (h60 : ops.length ≤ 60) (hl : ids.length = ops.length) (hall : ∀ (j : Nat) (o : Op), ops[j]? = some o → (opOk o = true ∧ sgn o = true) ∧ ids[j]? = some (idOf o))
 (hr : risB ids = true) (hc : ∀ o ∈ ops, ∀ p ∈ o.preds, p ∈ ids) (ho : OrdI ids ops out) (hol : out.length = ops.length) : ids = ops.map idOf ∧ GOk ops := by
 have e : ids = ops.map idOf := by
  apply List.ext_getElem?;intro j;rw [List.getElem?_map];cases hj : ops[j]? with
  | none => rw [List.getElem?_eq_none_iff] at hj; rw [List.getElem?_eq_none af]; rfl
  | some o => exact (hall j o hj).2
 refine ⟨e, ?_⟩;obtain ⟨f, hf⟩ := ho.rank (risB_nodup hr) hl hol;refine ⟨h60, fun o hm => ?_, e ▸ hr, fun o hm p hp => e ▸ hc o hm p hp, f, fun o hm p hp => ?_⟩
 · obtain ⟨j, hj, he⟩ := List.getElem_of_mem hm
   exact (hall j o (by rw [List.getElem?_eq_getElem hj, he])).1
 · obtain ⟨j, hj, he⟩ := List.getElem_of_mem hm
   have hj' : ops[j]? = some o := by rw [List.getElem?_eq_getElem hj, he]
   exact hf j o _ hj' (hall j o hj').2 p hp
theorem ref_shape9 {c : World} {h : GH} {L : Own} {iv ov : Value} {ids : List ID} {xs : List (Op × Value)} (hi : RIds h iv ids) (ho : ROps h ov xs) (hl : ids.length = xs.length) (hs60 : xs.length ≤ 60):
 Fun Tryz.prog c 63 #[gV iv ov] h L (fun u _ L' => (∃ e : Int, u = .int .i64 e ∧ (e = 0 → risB ids = true ∧ (∀ o ∈ fst1 xs, ∀ p ∈ o.preds, p ∈ ids) ∧ ∃ out, OrdI ids (fst1 xs) out ∧ out.length = xs.length)) ∧ L = L') := by
 have hsm := ho.sl.small; rw [List.length_map] at hsm;have hsi := hi.small; rw [List.length_map] at hsi;have hfl := fst1_len xs;refine zS (N := 32) (args := [gV iv ov]) Tryz.func63 ?_;refine qg (box_at rfl ?_);intro p1 h2 le1 hp1;replace hi := hi.mono le1; replace ho := ho.mono le1;refine qg (qd ?_);refine qg (qf fi_25_0 aa ?_);intro p4 hp4;refine qg (ql sc_22 aa ?_);refine qg (qc (ref_rising hi) ?_);rintro v6 h4 L_ le3 ⟨rfl, rfl⟩;replace hi := hi.mono le3; replace ho := ho.mono le3; replace hp1 := hp1.mono le3;obtain ⟨br, hbr⟩ : ∃ b, risB ids = b := ⟨_, rfl⟩;rw [hbr];cases br
 ·
  refine qg (not_ff ?_);refine qd ?_;refine qg (qd ?_);refine ze rfl ?_;exact ⟨⟨_, rfl, fun h0 => absurd h0 ah⟩, rfl⟩
 ·
  refine qg (not_tt ?_);refine qd ?_;refine qg (qd ?_);refine qL (fun s0 nn s' h' L' => ∃ (k : Nat), s' = [(3, .int .i64 k)] ++ qR s0 [1] ∧ nn = xs.length - k ∧ L = L' ∧ k ≤ xs.length ∧ ∀ j, j < k → ∀ x, xs[j]? = some x → ∀ p ∈ x.1.preds, p ∈ ids) ⟨0, rfl, rfl, rfl, ?_⟩ zg zl zn ?_
  · exact ⟨Nat.zero_le _, fun j hj => absurd hj (Nat.not_lt_zero j)⟩
  rintro nn s1 h5 L_ le6 ⟨k, rfl, rfl, rfl, hk, hcl⟩;replace hi := hi.mono le6; replace ho := ho.mono le6; replace hp1 := hp1.mono le6;refine qg (qg (qf fi_25_1 aa ?_));intro p9 hp9;refine qg (ql sc_23 aa ?_);refine qg (qm sl_23 (ROps.sl aa) ?_);refine qg (lssB (fun c12 => ?_) (fun c12 => ?_))
  ·
   have hkl : k < xs.length := by omega
   obtain ⟨x, hx⟩ := qE hkl;have hr := ho.each x (List.mem_of_getElem? hx);have hpp := hr.preds;refine qd ?_;refine qD mixed [] [0, 1, 2, 3, 4, 5, 6, 7, 8, 9] [] ae sub_nil ?_;refine qr rfl rfl rfl (qf fi_25_0 aa ?_);intro p15 hp15;refine qr rfl rfl rfl (ql sc_22 aa ?_);refine qr rfl rfl rfl (qf fi_25_1 aa ?_);intro p17 hp17;refine qr rfl rfl rfl (ql sc_23 aa ?_);refine qr rfl rfl rfl (qr rfl rfl rfl (qi (k := k) sl_23 ho.sl ao hx ?_));intro p20 r20 hl20 hp20;refine qr rfl rfl rfl (qf fi_61_1 aa ?_);intro p21 hp21;refine qr rfl rfl rfl (ql sc_22 aa ?_);refine qj rfl rfl rfl ?_;refine qc (ref_all hi hpp) ?_;rintro v23 h8 L_ le7 ⟨rfl, rfl⟩;obtain ⟨ba, hba⟩ : ∃ b, decide (∀ p ∈ x.1.preds, p ∈ ids) = b := ⟨_, rfl⟩;rw [hba];cases ba
   ·
    refine ⟨am, ?_⟩;refine qr rfl rfl rfl (not_ff ?_);refine qe zf ?_;refine qg (qd ?_);refine ze rfl ?_;exact ⟨⟨_, rfl, fun h0 => absurd h0 ah⟩, rfl⟩
   ·
    refine ⟨am, ?_⟩;refine qr rfl rfl rfl (not_tt ?_);refine qe zf ?_;refine qg (qg (qA ak ?_));refine qg (qd ?_)
    exact back (m := _) ⟨k + 1, rfl, rfl, rfl, by omega, fun j hj y hy => by
     rcases Nat.lt_or_ge j k with h1 | h1
     · exact hcl j h1 y hy
     · have : j = k := by omega
       subst this; rw [hx] at hy; cases hy; exact of_decide_eq_true hba⟩ af zg zl zn
  ·
   refine qd ?_;refine qD mixed [] [0, 3, 4, 5, 1, 2, 6] [] ae sub_nil ?_;refine qr rfl rfl rfl (qX ag_25 aa ag ?_);refine qr rfl rfl rfl (qf fi_25_1 aa ?_);intro p28 hp28;refine qr rfl rfl rfl (ql sc_23 aa ?_);refine qr rfl rfl rfl (qm sl_23 (ROps.sl aa) ?_);refine qj rfl rfl rfl ?_;refine qc (ref_order9 hi ho hl hs60) ?_;rintro v26 h10 L_ le9 ⟨out26, N26, rfl, hv26, hord⟩;refine ⟨am, ?_⟩;refine qr rfl rfl rfl (len_os sl_159 aa ?_);refine qr rfl rfl rfl (lssB (fun c31 => ?_) (fun c31 => ?_))
   ·
    refine qe zf ?_;refine qg (qd ?_);refine DoRet.r1 (.tmp rfl) (qh (List.Sublist.trans kS (List.sublist_append_right _ _))) zl ?_;exact ⟨⟨_, rfl, fun h0 => absurd h0 ah⟩, rfl⟩
   ·
    refine qe zf ?_;refine qg (qd ?_);refine DoRet.r1 (.tmp rfl) (qh (List.Sublist.trans kS (List.sublist_append_right _ _))) zl ?_;have hke : k = xs.length := by omega
    subst hke;have hol := nodup_le xs.length out26 hord.nd (by have := hord.lt; rw [hfl] at this; exact this);rw [List.length_map] at c31;refine ⟨⟨_, rfl, fun _ => ⟨rfl, fun o hm p hp => ?_, out26, hord, by omega⟩⟩, rfl⟩;obtain ⟨x, hxm, rfl⟩ := List.mem_map.1 hm;obtain ⟨j, hj, he⟩ := List.getElem_of_mem hxm;exact hcl j hj x (by rw [List.getElem?_eq_getElem hj, he]) p hp
theorem ref_check9 {c : World} {h : GH} {L : Own} {iv ov : Value} {ids : List ID} {xs : List (Op × Value)} (hi : RIds h iv ids) (ho : ROps h ov xs):
 Fun Tryz.prog c 23 #[gV iv ov] h L (fun u _ L' => (∃ e : Int, u = .int .i64 e ∧ (e = 0 → ids = (fst1 xs).map idOf ∧ GOk (fst1 xs))) ∧ L = L') := by
 have hsm := ho.sl.small; rw [List.length_map] at hsm;have hsi := hi.small; rw [List.length_map] at hsi;have hfl := fst1_len xs;have h32 := hi.len32;refine zS (N := 45) (args := [gV iv ov]) Tryz.func23 ?_;refine qg (box_at rfl ?_);intro p1 h2 le1 hp1;replace hi := hi.mono le1; replace ho := ho.mono le1;refine qg (qd ?_);refine qg (qf fi_25_1 aa ?_);intro p4 hp4;refine qg (ql sc_23 aa ?_);refine qg (qm sl_23 (ROps.sl aa) ?_);refine qg (gtrB (fun c7 => ?_) (fun c7 => ?_))
 ·
  refine qd ?_;refine qg (qd ?_);refine ze rfl ?_;exact ⟨⟨_, rfl, fun h0 => absurd h0 ah⟩, rfl⟩
 ·
  refine qd ?_;refine qg (qf fi_25_0 aa ?_);intro p8 hp8;refine qg (ql sc_22 aa ?_);refine qg (qm sl_22 aa ?_);refine qg (qf fi_25_1 aa ?_);intro p11 hp11;refine qg (ql sc_23 aa ?_);refine qg (qm sl_23 (ROps.sl aa) ?_);refine qg (neqB (fun c14 => ?_) (fun c14 => ?_))
  ·
   refine qd ?_;refine qg (qd ?_);refine ze rfl ?_;exact ⟨⟨_, rfl, fun h0 => absurd h0 ah⟩, rfl⟩
  ·
   have hl : ids.length = xs.length := by omega
   refine qd ?_;refine qg (qd ?_);refine qL (fun s0 nn s' h' L' => ∃ (k : Nat), s' = [(3, .int .i64 k)] ++ qR s0 [1] ∧ nn = xs.length - k ∧ L = L' ∧ k ≤ xs.length ∧ ∀ j, j < k → ∀ x, xs[j]? = some x → (opOk x.1 = true ∧ sgn x.1 = true) ∧ ids[j]? = some (idOf x.1)) ⟨0, rfl, rfl, rfl, ?_⟩ zg zl zn ?_
   · exact ⟨Nat.zero_le _, fun j hj => absurd hj (Nat.not_lt_zero j)⟩
   rintro nn s1 h3 L_ le4 ⟨k, rfl, rfl, rfl, hk, hcl⟩;replace hi := hi.mono le4; replace ho := ho.mono le4; replace hp1 := hp1.mono le4;refine qg (qg (qf fi_25_1 aa ?_));intro p16 hp16;refine qg (ql sc_23 aa ?_);refine qg (qm sl_23 (ROps.sl aa) ?_);refine qg (lssB (fun c19 => ?_) (fun c19 => ?_))
   ·
    have hkl : k < xs.length := by omega
    obtain ⟨x, hx⟩ := qE hkl;have hr := ho.each x (List.mem_of_getElem? hx);have hpp := hr.preds;obtain ⟨y, hy⟩ := qE (l := ids) (k := k) af;have hcl2 : (idC (idOf x.1)).length = 32 := by rw [idC_length, idOf_len]
    refine qd ?_;refine qD mixed [] [0, 1, 2, 3, 4, 5, 6, 7, 8, 9, 10, 11, 12, 14, 15, 16, 17, 18, 13, 19, 20] [] ae sub_nil ?_;refine qr rfl rfl rfl (qf fi_25_1 aa ?_);intro p22 hp22;refine qr rfl rfl rfl (ql sc_23 aa ?_);refine qr rfl rfl rfl (qr rfl rfl rfl (qi (k := k) sl_23 ho.sl ao hx ?_));intro p25 r25 hl25 hp25;refine qr rfl rfl rfl (qP ag_61 aa aa ?_);refine qj rfl rfl rfl ?_;refine qc (ref_verify6 (o := x.1) (pv := x.2) hr.wf (hr.preds.mono zl)) ?_;rintro v27 h6 L_ le5 ⟨⟨e27, rfl, he27⟩, rfl⟩;replace hi := hi.mono le5; replace ho := ho.mono le5; replace hp1 := hp1.mono le5;refine ⟨am, ?_⟩;refine qr rfl rfl rfl (neqB (fun c28 => ?_) (fun c28 => ?_))
    ·
     refine qr rfl rfl rfl (DoDr.skipF rfl rfl rfl rfl ?_);refine DoDr.skipF rfl rfl rfl rfl ?_;refine DoDr.skipF rfl rfl rfl rfl ?_;refine DoDr.skipF rfl rfl rfl rfl ?_;refine DoDr.skipF rfl rfl rfl rfl ?_;refine DoDr.skipF rfl rfl rfl rfl ?_;refine DoDr.skipF rfl rfl rfl rfl ?_;refine DoDr.skipF rfl rfl rfl rfl ?_;refine DoDr.skipF rfl rfl rfl rfl ?_;refine DoDr.skipF rfl rfl rfl rfl ?_;refine DoDr.skipF rfl rfl rfl rfl ?_;refine DoDr.skipF rfl rfl rfl rfl ?_;refine qr rfl rfl rfl (qe zf ?_);refine qg (qd ?_);refine ze rfl ?_;exact ⟨⟨_, rfl, fun h0 => absurd h0 ah⟩, rfl⟩
    ·
     refine qr rfl rfl rfl (DoDr.rdF rfl rfl rfl rfl rfl ?_);refine qf fi_25_1 aa ?_;intro p30 hp30;refine DoDr.rdF rfl rfl rfl rfl rfl ?_;refine ql sc_23 aa ?_;refine DoDr.rdF rfl rfl rfl rfl rfl ?_;refine DoDr.rdF rfl rfl rfl rfl rfl ?_;refine qi (k := k) sl_23 ho.sl ao hx ?_;intro p33 r33 hl33 hp33;refine DoDr.rdF rfl rfl rfl rfl rfl ?_;refine qP ag_61 aa aa ?_;refine DoDr.rdF rfl rfl rfl rfl rfl ?_;refine qf fi_25_0 aa ?_;intro p36 hp36;refine DoDr.rdF rfl rfl rfl rfl rfl ?_;refine ql sc_22 aa ?_;refine DoDr.rdF rfl rfl rfl rfl rfl ?_;refine DoDr.rdF rfl rfl rfl rfl rfl ?_;refine qi (k := k) sl_22 aa af hy ?_;intro p39 r39 hl39 hp39;refine DoDr.rdF rfl rfl rfl rfl rfl ?_;refine qP ag_74 aa aa ?_;refine DoDr.efF rfl rfl rfl rfl rfl ?_;refine qc (ref_of6 (o := x.1) (pv := x.2) (he27.1 af).1 hr.wf (ho.each x (List.mem_of_getElem? hx)).preds) ?_;rintro v35 h8 L_ le7 ⟨rfl, rfl⟩;refine ⟨am, ?_⟩;refine DoDr.rdF rfl rfl rfl rfl rfl ?_;refine neqI sh_id ia_id ef_id aa aa (fun c41 => ?_) (fun c41 => ?_)
     ·
      refine qr rfl rfl rfl (qe zf ?_);refine qg (qd ?_);refine ze rfl ?_;exact ⟨⟨_, rfl, fun h0 => absurd h0 ah⟩, rfl⟩
     ·
      refine qr rfl rfl rfl (qe zf ?_);refine qg (qg (qA ak ?_));refine qg (qd ?_)
      exact back (m := _) ⟨k + 1, rfl, rfl, rfl, by omega, fun j hj z hz => by
       rcases Nat.lt_or_ge j k with h1 | h1
       · exact hcl j h1 z hz
       · have : j = k := by omega
         subst this; rw [hx] at hz; cases hz; exact ⟨he27.1 af, by rw [hy, c41]⟩⟩ af zg zl zn
   ·
    refine qd ?_;refine qg (qX ag_25 aa ag ?_);refine qg (qc (ref_shape9 hi ho hl af) ?_);rintro v44 h10 L_ le9 ⟨⟨e44, rfl, he44⟩, rfl⟩;refine qg (qd ?_);refine ze rfl ?_;have hke : k = xs.length := by omega
    subst hke;refine ⟨⟨_, rfl, fun h0 => ?_⟩, rfl⟩;obtain ⟨q1, q2, out, q3, q4⟩ := he44 h0;refine GOk.of (out := out) af af (fun j o hj => ?_) q1 q2 q3 af;unfold fst1 at hj;rw [List.getElem?_map] at hj;cases hz : xs[j]? with
    | none => rw [hz] at hj; cases hj
    | some z => rw [hz] at hj; cases hj; exact hcl j (List.getElem?_eq_some_iff.1 hz).1 z hz
theorem validw {c : World} {h : GH} {L : Own} {iv ov : Value} {ids : List ID} {xs : List (Op × Value)} (hi : RIds h iv ids) (ho : ROps h ov xs):
 Fun Tryz.prog c 5 #[gV iv ov] h L (fun u _ L' => (∃ b : Bool, u = .bool b ∧ (b = true → ids = (fst1 xs).map idOf ∧ GOk (fst1 xs) ∧ xs.length ≤ 16)) ∧ L = L') := by
 have hfl := fst1_len xs;refine zS (N := 11) (args := [gV iv ov]) Tryz.func5 ?_;refine qg (box_at rfl ?_);intro p1 h2 le1 hp1;replace hi := hi.mono le1; replace ho := ho.mono le1;refine qg (qd ?_);refine qg (qX ag_25 aa ag ?_);refine qg (qc (ref_great9 hi ho) ?_);rintro v4 h4 L_ le3 ⟨⟨bg, rfl, hbg⟩, rfl⟩;replace hi := hi.mono le3; replace ho := ho.mono le3; replace hp1 := hp1.mono le3;cases bg
 ·
  refine qg (not_ff ?_);refine qg (qT rfl rfl ?_);refine qX ag_25 aa ag ?_;refine qT rfl rfl ?_;refine qc (ref_check9 hi ho) ?_;rintro v8 h6 L_ le5 ⟨⟨e8, rfl, he8⟩, rfl⟩;refine qT rfl rfl ?_;refine eqlB (fun c9 => ?_) (fun c9 => ?_)
  ·
   refine qg (qg (qd ?_));refine ze rfl ?_;refine ⟨⟨_, rfl, fun _ => ?_⟩, rfl⟩;obtain ⟨q1, q2⟩ := he8 af;have q3 := hbg rfl;have q4 := q2.small;rw [hfl] at q4;exact ⟨q1, q2, by omega⟩
  ·
   refine qg (qg (qd ?_));refine ze rfl ?_;exact ⟨⟨_, rfl, fun h0 => absurd h0 ah⟩, rfl⟩
 ·
  refine qg (not_tt ?_);refine qg (DoOps.skipT rfl rfl ?_);refine DoOps.skipT rfl rfl ?_;refine DoOps.skipT rfl rfl ?_;refine qg (qg (qd ?_));refine ze rfl ?_;exact ⟨⟨_, rfl, fun h0 => absurd h0 ah⟩, rfl⟩
end Go.Brd
namespace Go.Brd
open Go Go.Brd Go.Proofs
set_option linter.unusedVariables false
theorem ag_281 : aggN Tryz.prog 281 64 = true := by kernel_rfl
theorem ar_281 : arrayOf Tryz.prog 281 64 53 1 = true := by kernel_rfl
theorem si_281 : sizeIs Tryz.prog 281 64 = true := by kernel_rfl
theorem zc_281 : zeroC Tryz.prog 281 = some (List.replicate 64 (.int .u32 0)) := by kernel_rfl
def partW (b : List UInt8) (j : Nat) : Nat → Nat
 | 0 => 0
 | r + 1 => partW b j r * 256 + byt b (4 * j + r)
theorem partW_4 (b : List UInt8) (j : Nat) : partW b j 4 = be32 b j := by
 show (((0 * 256 + byt b (4 * j + 0)) * 256 + byt b (4 * j + 1)) * 256 + byt b (4 * j + 2)) * 256 + byt b (4 * j + 3) = be32 b j;unfold be32; simp
theorem partW_lt (b : List UInt8) (j : Nat) : ∀ r, r ≤ 3 → partW b j r < 16777216
 | 0, _ => by show 0 < 16777216; decide
 | 1, _ => by have := byt_lt b (4 * j); show 0 * 256 + byt b (4 * j + 0) < _; simp; omega
 | 2, _ => by have h1 := byt_lt b (4 * j); have h2 := byt_lt b (4 * j + 1); show (0 * 256 + byt b (4 * j + 0)) * 256 + byt b (4 * j + 1) < _; simp; omega
 | 3, _ => by have h1 := byt_lt b (4 * j); have h2 := byt_lt b (4 * j + 1); have h3 := byt_lt b (4 * j + 2); show ((0 * 256 + byt b (4 * j + 0)) * 256 + byt b (4 * j + 1)) * 256 + byt b (4 * j + 2) < _; simp; omega
def wst (b : List UInt8) (i : Nat) : List Nat := (List.range 64).map fun j => partW b j (min 4 (i - 4 * j))
theorem wst_len (b : List UInt8) (i : Nat) : (wst b i).length = 64 := by simp [wst]
theorem wst_at (b : List UInt8) {i j : Nat} (h : j < 64) : (wst b i)[j]? = some (partW b j (min 4 (i - 4 * j))) := by
 unfold wst; rw [List.getElem?_map, List.getElem?_range h]; rfl
theorem wst_zero (b : List UInt8) : wst b 0 = List.replicate 64 0 := by
 unfold wst;have : (fun j => partW b j (min 4 (0 - 4 * j))) = fun _ => 0 := by funext j; rw [Nat.zero_sub]; rfl
 rw [this]; simp [List.map_const']
theorem wst_at2 (b : List UInt8) {i : Nat} (h : i < 64) : (wst b i)[i / 4]? = some (partW b (i / 4) (i % 4)) := by
 rw [wst_at b af]; congr 2; omega
theorem wst_set (b : List UInt8) {i : Nat} (h : i < 64) : (wst b i).set (i / 4) (partW b (i / 4) (i % 4) * 256 + byt b i) = wst b (i + 1) := by
 apply List.ext_getElem?;intro j;rcases Nat.lt_or_ge j 64 with hj | hj
 · rw [List.getElem?_set, wst_len, wst_at b hj, wst_at b hj]
   by_cases e : i / 4 = j
   · rw [if_pos e, if_pos af]
     subst e;have h1 : min 4 (i + 1 - 4 * (i / 4)) = i % 4 + 1 := by omega
     rw [h1];show _ = some (partW b (i / 4) (i % 4) * 256 + byt b (4 * (i / 4) + i % 4));rw [Nat.div_add_mod]
   · rw [if_neg e]; congr 2; omega
 · rw [List.getElem?_eq_none (by simp [wst_len]; omega), List.getElem?_eq_none (by rw [wst_len]; omega)]
theorem shaW_16 (b : List UInt8) : ∀ n, n ≤ 16 → shaW b n = (List.range n).map fun j => be32 b j
 | 0, _ => rfl
 | n + 1, h => by rw [shaW_succ, shaW_16 b n af, if_pos af, List.range_succ, List.map_append]; rfl
theorem wst_64 (b : List UInt8) : wst b 64 = shaW b 16 ++ List.replicate 48 0 := by
 apply List.ext_getElem?;intro j;rcases Nat.lt_or_ge j 64 with hj | hj
 · rw [wst_at b hj]
   rcases Nat.lt_or_ge j 16 with h1 | h1
   · rw [List.getElem?_append_left (by rw [shaW_len]; exact h1), shaW_16 b 16 ah, List.getElem?_map, List.getElem?_range h1]
     rw [show min 4 (64 - 4 * j) = 4 by omega, partW_4]; rfl
   · rw [List.getElem?_append_right (by rw [shaW_len]; exact h1), shaW_len, List.getElem?_replicate, if_pos af]
     rw [show min 4 (64 - 4 * j) = 0 by omega]; rfl
 · rw [List.getElem?_eq_none (by rw [wst_len]; omega), List.getElem?_eq_none (by simp [shaW_len]; omega)]
theorem or_byte {a x : Nat} (h : x < 256) : a * 256 ||| x = a * 256 + x := by
 have := Nat.two_pow_add_eq_or_of_lt (i := 8) (b := x) h a;rw [Nat.mul_comm a 256]; exact this.symm
def shaT (b : List UInt8) (t : Nat) : List Nat := shaW b t ++ List.replicate (64 - t) 0
theorem shaT_len (b : List UInt8) {t : Nat} (h : t ≤ 64) : (shaT b t).length = 64 := by simp [shaT, shaW_len]; omega
theorem shaT_at (b : List UInt8) {t k : Nat} (h : k < t) : (shaT b t)[k]? = some ((shaW b t).getD k 0) := by
 unfold shaT; rw [List.getElem?_append_left (by rw [shaW_len]; exact h)]; exact shaW_at b h
theorem shaT_set (b : List UInt8) {t : Nat} (h1 : 16 ≤ t) (h : t < 64) : (shaT b t).set t (wnext (shaW b t)) = shaT b (t + 1) := by
 unfold shaT;rw [List.set_append_right _ _ (by rw [shaW_len]; omega), shaW_len, Nat.sub_self, shaW_succ, if_neg af, show 64 - t = (64 - (t + 1)) + 1 by omega, List.replicate_succ, List.set_cons_zero, List.append_assoc]; rfl
theorem dig_schedule {c : World} {h : GH} {L : Own} {v0 : Value} {b : List UInt8} (hb0 : RBytes h v0 b) (hb : 64 ≤ b.length) (hsm : b.length ≤ 1073741824):
 Fun Tryz.prog c 242 #[v0] h L (fun u _ L' => u = .agg ((shaW b 64).map u32v).toArray ∧ L = L') := by
 refine zS (N := 74) (args := [v0]) Tryz.func242 ?_;refine qg (qa zc_281 ?_);intro b2;refine qd ?_;refine qg (qg (slice_sl_hi (hi := 64) sl_109 aa af (by rw [List.length_map]; exact hb) ?_));intro v11 hv11
 try rw [← List.map_take] at hv11
 try rw [← List.map_drop] at hv11
 refine qg (qm sl_109 hv11 ?_);rw [show ((b.take 64).length : Nat) = 64 by simp; omega];refine qg (qd ?_);refine qL (fun s0 nn s' h' L' => ∃ (i : Nat), s' = [(13, .int .i64 i)] ++ qR s0 [2, 11, 12] ∧ nn = 64 - i ∧ (b2, .cells ((wst b i).map u32v).toArray 281 (0, 0)) :: L = L' ∧ i ≤ 64) ⟨0, rfl, rfl, by rw [wst_zero]; rfl, Nat.zero_le _⟩ zg zl zn ?_;rintro nn s1 h1 L_ le2 ⟨i, rfl, rfl, rfl, hi⟩;replace hv11 := hv11.mono le2;refine qg (lssB (fun c14 => ?_) (fun c14 => ?_))
 ·
  have hil : i < 64 := by omega
  obtain ⟨x, hx⟩ := qE (l := b) (k := i) af;have hx2 : (b.take 64)[i]? = some x := by rw [List.getElem?_take_of_lt hil]; exact hx
  have hxl : x.toNat < 256 := x.toNat_lt;have hbx : byt b i = x.toNat := by unfold byt; rw [List.getD_eq_getElem?_getD, hx]; rfl
  have hpw := partW_lt b (i / 4) (i % 4) af;have hor := or_byte (a := partW b (i / 4) (i % 4)) hxl;have hws := wst_set b hil;have hsh : partW b (i / 4) (i % 4) * 2 ^ 8 % 4294967296 = partW b (i / 4) (i % 4) * 256 := by rw [show (2 : Nat) ^ 8 = 256 from rfl]; exact Nat.mod_eq_of_lt af
  rw [hbx] at hws;refine qd ?_;refine qg (qg (qi (k := i) sl_109 aa rfl hx2 ?_));intro p16 r16 hl16 hp16;refine qg (ql sc_5 aa ?_);refine qg (qg (qd ?_));refine qg (qg (quo_nat (a := i) (b := 4) ah (by refine wrap_i64 ?_; unfold InI64; omega) ?_));refine qg (qg (quo_nat (a := i) (b := 4) ah (by refine wrap_i64 ?_; unfold InI64; omega) ?_));refine qg (indexArr_own (k := i / 4) ar_281 ao ap ?_);refine qg (qO (v := .int .u32 ((partW b (i / 4) (i % 4) : Nat) : Int)) sc_53 kH (by rw [Nat.zero_add, Nat.mul_one]; exact map_get (f := u32v) (wst_at2 b hil)) ?_);refine qg (shl_u32 (n := 8) ah ?_);rw [hsh];refine qg (qg (conv_u32n (n := x.toNat) it_5_53 af ?_));refine qg (or_u32 (a := partW b (i / 4) (i % 4) * 256) (b := x.toNat) af af ?_);rw [hor];refine qg (indexArr_own (k := i / 4) ar_281 ao ap ?_);refine qg (kB (l' := (wst b (i + 1)).map u32v) si_53 ac ai ad kR (by simp only [List.length_map, wst_len]; omega) (by rw [Nat.zero_add, Nat.mul_one, ← hws, List.map_set]; rfl) kR.symm ?_);refine qd ?_;refine qg (qA ak ?_);refine qg (qd ?_);exact back (m := _) ⟨i + 1, rfl, rfl, rfl, by omega⟩ af zg zl zn
 ·
  have hi64 : i = 64 := by omega
  subst hi64;refine qd ?_;refine qg (qd ?_);refine qL (fun s0 nn s' h' L' => ∃ (t : Nat), s' = [(5, .int .i64 t)] ++ qR s0 [2] ∧ nn = 64 - t ∧ (b2, .cells ((shaT b t).map u32v).toArray 281 (0, 0)) :: L = L' ∧ 16 ≤ t ∧ t ≤ 64) ⟨16, rfl, rfl, by rw [wst_64]; rfl, Nat.le_refl _, by decide⟩ zg zl zn ?_;rintro nn s1 h3 L_ le4 ⟨t, rfl, rfl, rfl, ht0, ht⟩;refine qg (qg (lssB (fun c31 => ?_) (fun c31 => ?_)))
  ·
   have htl : t < 64 := by omega
   have hw15 := shaT_at b (t := t) (k := t - 15) af;have hl15 := shaW_getlt b (n := t) (k := t - 15) af
   generalize hq15 : (shaW b t).getD (t - 15) 0 = w15 at hw15 hl15
   have hw2 := shaT_at b (t := t) (k := t - 2) af;have hl2 := shaW_getlt b (n := t) (k := t - 2) af
   generalize hq2 : (shaW b t).getD (t - 2) 0 = w2 at hw2 hl2
   have hw16 := shaT_at b (t := t) (k := t - 16) af;have hl16 := shaW_getlt b (n := t) (k := t - 16) af
   generalize hq16 : (shaW b t).getD (t - 16) 0 = w16 at hw16 hl16
   have hw7 := shaT_at b (t := t) (k := t - 7) af;have hl7 := shaW_getlt b (n := t) (k := t - 7) af
   generalize hq7 : (shaW b t).getD (t - 7) 0 = w7 at hw7 hl7
   have hwl := shaW_len b t;have hts := shaT_set b ht0 htl
   have hwn : wnext (shaW b t) = (((w16 + w7) % 4294967296 + sg0 w15) % 4294967296 + sg1 w2) % 4294967296 := by
    unfold wnext; rw [hwl, hq15, hq2, hq16, hq7]
   rw [hwn] at hts;refine qd ?_;refine qD mixed [] [0, 1, 2, 3, 4, 5, 6, 7, 8, 9] (_ :: []) ae (qq kH sub_nil) ?_;refine qr rfl rfl rfl (qr rfl rfl rfl (sub_i64 ak ?_));refine qr rfl rfl rfl (indexArr_own (k := t - 15) ar_281 ao ap ?_);refine qr rfl rfl rfl (qO (v := .int .u32 ((w15 : Nat) : Int)) sc_53 kH (by rw [Nat.zero_add, Nat.mul_one]; exact map_get (f := u32v) hw15) ?_);refine qr rfl rfl rfl (qr rfl rfl rfl (sub_i64 ak ?_));refine qr rfl rfl rfl (indexArr_own (k := t - 2) ar_281 ao ap ?_);refine qr rfl rfl rfl (qO (v := .int .u32 ((w2 : Nat) : Int)) sc_53 kH (by rw [Nat.zero_add, Nat.mul_one]; exact map_get (f := u32v) hw2) ?_);refine qr rfl rfl rfl (qr rfl rfl rfl (qe zf ?_));refine qg (qg (qc (rotl32 (n := 7) hl15 ah ah) ?_));rintro v43 h6 L_ le5 ⟨rfl, rfl⟩;refine qg (qg (qc (rotl32 (n := 18) hl15 ah ah) ?_));rintro v45 h8 L_ le7 ⟨rfl, rfl⟩;refine qg (xor_u32 zX0 zX0 ?_);refine qg (qg (shr_nat (n := 3) ah ?_));refine qg (xor_u32 zX0 zX0 ?_);refine qg (qd ?_);refine qg (qg (qc (rotl32 (n := 17) hl2 ah ah) ?_));rintro v51 h10 L_ le9 ⟨rfl, rfl⟩;refine qg (qg (qc (rotl32 (n := 19) hl2 ah ah) ?_));rintro v53 h12 L_ le11 ⟨rfl, rfl⟩;refine qg (xor_u32 zX0 zX0 ?_);refine qg (qg (shr_nat (n := 10) ah ?_));refine qg (xor_u32 zX0 zX0 ?_);refine qg (qd ?_);refine qD mixed [15] [0, 1, 2, 3, 4, 5, 6, 7, 8, 9, 10, 11, 12, 13, 14, 15] (_ :: []) ae (qq kH sub_nil) ?_;refine qr rfl rfl rfl (qr rfl rfl rfl (qr rfl rfl rfl (sub_i64 ak ?_)));refine qr rfl rfl rfl (indexArr_own (k := t - 16) ar_281 ao ap ?_);refine qr rfl rfl rfl (qO (v := .int .u32 ((w16 : Nat) : Int)) sc_53 kH (by rw [Nat.zero_add, Nat.mul_one]; exact map_get (f := u32v) hw16) ?_);refine qr rfl rfl rfl (qr rfl rfl rfl (sub_i64 ak ?_));refine qr rfl rfl rfl (indexArr_own (k := t - 7) ar_281 ao ap ?_);refine qr rfl rfl rfl (qO (v := .int .u32 ((w7 : Nat) : Int)) sc_53 kH (by rw [Nat.zero_add, Nat.mul_one]; exact map_get (f := u32v) hw7) ?_);refine qr rfl rfl rfl (add_u32 ?_);refine qr rfl rfl rfl (qr rfl rfl rfl (add_u32 ?_));refine qr rfl rfl rfl (qr rfl rfl rfl (add_u32 ?_));refine qr rfl rfl rfl (indexArr_own (k := t) ar_281 ao ap ?_);refine DoDr.drop rfl rfl rfl ?_;refine kB (l' := (shaT b (t + 1)).map u32v) si_53 ac ai ad kR (by simp only [List.length_map, shaT_len b ht]; omega) (by rw [Nat.zero_add, Nat.mul_one, ← hts, List.map_set]; rfl) kR.symm ?_;refine qe zf ?_;refine qg (qg (qA ak ?_));refine qg (qd ?_);exact back (m := _) ⟨t + 1, rfl, rfl, rfl, by omega, by omega⟩ af zg zl zn
  ·
   have ht64 : t = 64 := by omega
   subst ht64;have e64 : shaT b 64 = shaW b 64 := by unfold shaT; simp
   rw [e64];have hcl : ((shaW b 64).map u32v).length = 64 := by rw [List.length_map, shaW_len]
   have hone : ((shaW b 64).map u32v).all oneCell = true := by
    rw [List.all_eq_true]; intro v hv; obtain ⟨n, _, rfl⟩ := List.mem_map.1 hv; rfl
   generalize (shaW b 64).map u32v = w at hcl hone ⊢
   refine qd ?_;refine qg (qx (r := w) ag_281 kH (by rw [hcl]; decide) (by rw [List.drop_zero, List.take_of_length_le (by rw [hcl]; decide)]) ?_);refine qg (kB (l' := w) si_281 ac hcl hone kR (by rw [hcl]; decide) (over_all rfl) kR.symm ?_);refine qd ?_;refine DoRet.r1 (.cell rfl (qx (r := w) ag_281 kH (by rw [hcl]; decide) (by rw [List.drop_zero, List.take_of_length_le (by rw [hcl]; decide)]) rfl)) (qh (zu kS)) zl ?_;exact ⟨rfl, rfl⟩
end Go.Brd
namespace Go.Brd
open Go Go.Brd Go.Proofs
set_option linter.unusedVariables false
def GK (h : GH) : Prop := At h (.pointer (some ⟨1, 0, none⟩)) (shaK.map u32v)
theorem GK.mono {h h' : GH} (hle : GH.le h h') (g : GK h) : GK h' := At.mono hle g
theorem u32v_one (l : List Nat) : (l.map u32v).all oneCell = true := by
 rw [List.all_eq_true]; intro v hv; obtain ⟨n, _, rfl⟩ := List.mem_map.1 hv; rfl
theorem dig_grind {c : World} {h : GH} {L : Own} {s : S8} {v0 rv nv : Value} {b : List UInt8} {b0 E0 : Nat} (hg : GK h) (hs : s.Lt) (hb0 : RBytes h v0 b) (hb : 64 ≤ b.length) (hsm : b.length ≤ 1073741824):
 Fun Tryz.prog c 228 #[.pointer (some ⟨b0, 0, none⟩), v0] h ((b0, .cells (s8C s ++ [rv, nv]).toArray E0 (0, 0)) :: L) (fun _ _ L' => (b0, .cells (s8C (ground s b) ++ [rv, nv]).toArray E0 (0, 0)) :: L = L') := by
 refine zS (N := 126) (args := [.pointer (some ⟨b0, 0, none⟩), v0]) Tryz.func228 ?_;refine qg (qg (qc (dig_schedule hb0 hb hsm) ?_));rintro v19 h2 L_ le1 ⟨rfl, rfl⟩;replace hg := hg.mono le1;have hwl := shaW_len b 64;have hcl : ((shaW b 64).map u32v).length = 64 := by rw [List.length_map, shaW_len]
 have hone := u32v_one (shaW b 64);obtain ⟨ws, hws⟩ : ∃ ws, shaW b 64 = ws := ⟨_, rfl⟩;rw [hws] at hwl hcl hone ⊢;refine qg (qa zc_281 ?_);intro b4;refine qg (kB (l' := ws.map u32v) si_281 ac hcl hone kR ab (over_all (by rw [hcl]; rfl)) kR.symm ?_);refine qd ?_;refine qD mixed [] [0, 1, 2, 3, 4, 5, 6, 7, 8, 9, 10, 11, 12, 13, 14, 15, 16, 17, 18, 19, 20, 21, 22, 23, 24, 25, 26, 27, 28, 29, 30, 31, 32, 33, 34, 35, 36, 37, 38, 39] (_ :: []) ae (qq (kT kH) sub_nil) ?_;refine qr rfl rfl rfl (qr rfl rfl rfl (qr rfl rfl rfl (indexArr_own (k := 0) ar_211 ao ap ?_)));refine qr rfl rfl rfl (qO sc_53 kH an ?_);refine qr rfl rfl rfl (qr rfl rfl rfl (qr rfl rfl rfl (indexArr_own (k := 1) ar_211 ao ap ?_)));refine qr rfl rfl rfl (qO sc_53 kH an ?_);refine qr rfl rfl rfl (qr rfl rfl rfl (qr rfl rfl rfl (indexArr_own (k := 2) ar_211 ao ap ?_)));refine qr rfl rfl rfl (qO sc_53 kH an ?_);refine qr rfl rfl rfl (qr rfl rfl rfl (qr rfl rfl rfl (indexArr_own (k := 3) ar_211 ao ap ?_)));refine qr rfl rfl rfl (qO sc_53 kH an ?_);refine qr rfl rfl rfl (qr rfl rfl rfl (qr rfl rfl rfl (indexArr_own (k := 4) ar_211 ao ap ?_)));refine qr rfl rfl rfl (qO sc_53 kH an ?_);refine qr rfl rfl rfl (qr rfl rfl rfl (qr rfl rfl rfl (indexArr_own (k := 5) ar_211 ao ap ?_)));refine qr rfl rfl rfl (qO sc_53 kH an ?_);refine qr rfl rfl rfl (qr rfl rfl rfl (qr rfl rfl rfl (indexArr_own (k := 6) ar_211 ao ap ?_)));refine qr rfl rfl rfl (qO sc_53 kH an ?_);refine qr rfl rfl rfl (qr rfl rfl rfl (qr rfl rfl rfl (indexArr_own (k := 7) ar_211 ao ap ?_)));refine qr rfl rfl rfl (qO sc_53 kH an ?_);refine qr rfl rfl rfl (qr rfl rfl rfl (qr rfl rfl rfl (qr rfl rfl rfl (qr rfl rfl rfl (qr rfl rfl rfl (qr rfl rfl rfl (qr rfl rfl rfl (qe zf ?_))))))));refine qg (qd ?_);refine qL (fun s0 nn s' h' L' => ∃ (k : Nat), s' = [(5, .int .u32 (((rnds ws s k).a : Nat) : Int)), (6, .int .u32 (((rnds ws s k).b : Nat) : Int)), (7, .int .u32 (((rnds ws s k).c : Nat) : Int)), (8, .int .u32 (((rnds ws s k).d : Nat) : Int)), (9, .int .u32 (((rnds ws s k).e : Nat) : Int)), (10, .int .u32 (((rnds ws s k).f : Nat) : Int)), (11, .int .u32 (((rnds ws s k).g : Nat) : Int)), (12, .int .u32 (((rnds ws s k).h : Nat) : Int)), (52, .int .i64 k)] ++ qR s0 [0, 4] ∧ nn = 64 - k ∧ (b4, .cells (ws.map u32v).toArray 281 (0, 0)) :: (b0, .cells (s8C s ++ [rv, nv]).toArray E0 (0, 0)) :: L = L' ∧ k ≤ 64) ⟨0, rfl, rfl, rfl, ?_⟩ zg zl zn ?_
 · exact Nat.zero_le _
 rintro nn s1 h3 L_ le4 ⟨k, rfl, rfl, rfl, hk⟩;replace hg := hg.mono le4;refine qg (lssB (fun c53 => ?_) (fun c53 => ?_))
 ·
  have hkl : k < 64 := by omega
  have hr := rnds_lt (ws := ws) hs k;obtain ⟨r, hrr⟩ : ∃ r, rnds ws s k = r := ⟨_, rfl⟩;rw [hrr] at hr ⊢;have hra := hr.a; have hrb := hr.b; have hrc := hr.c; have hrd := hr.d; have hre := hr.e; have hrf := hr.f; have hrg := hr.g; have hrh := hr.h
  have hK := shaK_at hkl;obtain ⟨wk, hW⟩ := qE (l := ws) (k := k) af;have hWd : ws.getD k 0 = wk := by rw [List.getD_eq_getElem?_getD, hW]; rfl
  refine qd ?_;refine qg (qg (qd ?_));refine qD mixed [] [0, 1, 4, 5, 6, 7, 8, 9, 10, 11, 13, 14, 15, 17, 18, 19, 2, 3, 12, 16, 20, 21] (_ :: []) ae (qq kH sub_nil) ?_;refine qr rfl rfl rfl (qr rfl rfl rfl (qr rfl rfl rfl (qr rfl rfl rfl (qr rfl rfl rfl (and_u32 zX0 zX0 ?_)))));refine qr rfl rfl rfl (qr rfl rfl rfl (unOp_xor_u32 af ?_));refine qr rfl rfl rfl (qr rfl rfl rfl (and_u32 zX0 zX0 ?_));refine qr rfl rfl rfl (xor_u32 zX0 zX0 ?_);refine qr rfl rfl rfl (qr rfl rfl rfl (indexArr_at (k := k) ar_281 hg rfl hkl ?_));intro p69 hp69;refine qr rfl rfl rfl (load_atD (v := .int .u32 ((shaK.getD k 0 : Nat) : Int)) sc_53 hp69 (by rw [Nat.mul_one]; exact map_get (f := u32v) hK) ?_);refine qr rfl rfl rfl (qr rfl rfl rfl (indexArr_own (k := k) ar_281 ao ap ?_));refine qr rfl rfl rfl (qO (v := .int .u32 (wk : Nat)) sc_53 kH (by rw [Nat.zero_add, Nat.mul_one]; exact map_get (f := u32v) hW) ?_);refine qj rfl rfl rfl ?_;refine qc (digest_mix (x := r.e) (i := 6) (j := 11) (k := 25) hre ah ah ah) ?_;rintro v57 h6 L_ le5 ⟨rfl, rfl⟩;refine ⟨(qq kH sub_nil), ?_⟩;refine qr rfl rfl rfl (add_u32 ?_);refine qr rfl rfl rfl (add_u32 ?_);refine qr rfl rfl rfl (add_u32 ?_);refine qr rfl rfl rfl (add_u32 ?_);refine qr rfl rfl rfl (qe zf ?_);refine qg (qg (qc (digest_mix (x := r.a) (i := 2) (j := 13) (k := 22) hra ah ah ah) ?_));rintro v77 h8 L_ le7 ⟨rfl, rfl⟩;refine qg (qg (qg (and_u32 zX0 zX0 ?_)));refine qg (qg (qg (and_u32 zX0 zX0 ?_)));refine qg (xor_u32 zX0 zX0 ?_);refine qg (qg (qg (and_u32 zX0 zX0 ?_)));refine qg (xor_u32 zX0 zX0 ?_);refine qg (add_u32 ?_);refine qg (qd ?_);refine qg (qg (qg (add_u32 ?_)));refine qg (qg (qg (qg (qg (qg (add_u32 ?_))))));refine qg (qg (qg (qg (qg (qg (qg (qg (qg (qg (qg (qd ?_)))))))))));refine qg (qA ak ?_);refine qg (qd ?_);have hn : rnds ws s (k + 1) = rnd r (shaK.getD k 0) wk := by rw [show rnds ws s (k + 1) = rnd (rnds ws s k) (shaK.getD k 0) (ws.getD k 0) from rfl, hrr, hWd]
  exact back (m := _) ⟨k + 1, by rw [hn], rfl, rfl, by omega⟩ af zg zl zn
 ·
  have hk64 : k = 64 := by omega
  subst hk64;obtain ⟨r64, hr64⟩ : ∃ r, rnds ws s 64 = r := ⟨_, rfl⟩;rw [hr64];refine qd ?_;refine qg (qg (qg (qg (qg (qg (qg (qg (qg (build_array zc_211 ar_211 (qy ac (qy ac (qy ac (qy ac (qy ac (qy ac (qy ac (qy ac Parts.nil)))))))) rfl ?_)))))))));refine qg (qd ?_);refine qL (fun s0 nn s' h' L' => ∃ (k : Nat), s' = [(112, .int .i64 k)] ++ qR s0 [0, 111] ∧ nn = 8 - k ∧ (b4, .cells (ws.map u32v).toArray 281 (0, 0)) :: (b0, .cells (((s8L (ground s b)).take k ++ (s8L s).drop k).map u32v ++ [rv, nv]).toArray E0 (0, 0)) :: L = L' ∧ k ≤ 8) ⟨0, rfl, rfl, rfl, ?_⟩ zg zl zn ?_
  · exact Nat.zero_le _
  rintro nn s1 h9 L_ le10 ⟨k, rfl, rfl, rfl, hk⟩;refine qg (lssB (fun c113 => ?_) (fun c113 => ?_))
  ·
   have hkl : k < 8 := by omega
   obtain ⟨x, hx⟩ := s8_at s hkl;obtain ⟨y, hy⟩ := s8_at r64 hkl;have hgk : (s8L (ground s b))[k]? = some ((x + y) % 4294967296) := by unfold ground; rw [hws, hr64]; exact add8_at hx hy
   have hg8 : (s8L (ground s b)).length = (s8L s).length := (s8L_len _).trans (s8L_len _).symm
   generalize s8L (ground s b) = gg at hgk hg8 ⊢
   have hgl : gg.length = 8 := hg8.trans (s8L_len s);have hsl := s8L_len s;have hyg := map_get (f := u32v) hy;have hctd := cells_td hgk hg8;refine qd ?_;refine qg (qg (index_sc (k := k) ar_211 sc_53 ao ap (show _ = some (.int .u32 (y : Nat)) from hyg) ?_));refine qg (qg (qd ?_));refine qD mixed [9] [0, 1, 2, 3, 4, 5, 6, 7, 8, 9] (_ :: []) ae (qq (kT kH) sub_nil) ?_;refine qr rfl rfl rfl (qr rfl rfl rfl (qr rfl rfl rfl (qr rfl rfl rfl (indexArr_own (k := k) ar_211 ao ap ?_))));refine qr rfl rfl rfl (qO (v := .int .u32 (x : Nat)) sc_53 kH (by rw [Nat.zero_add, Nat.mul_one, List.getElem?_append_left (by simp only [List.length_map, List.length_append, List.length_take, List.length_drop]; omega)]; exact map_get (f := u32v) (by rw [td_get af]; exact hx)) ?_);refine qr rfl rfl rfl (qr rfl rfl rfl (add_u32 ?_));refine qr rfl rfl rfl (qr rfl rfl rfl (indexArr_own (k := k) ar_211 ao ap ?_));refine DoDr.drop rfl rfl rfl ?_;refine kB (l' := (gg.take (k + 1) ++ (s8L s).drop (k + 1)).map u32v ++ [rv, nv]) si_53 ac ai ad ((zc kR).trans zw) (by simp only [List.length_map, List.length_append, List.length_take, List.length_drop, List.length_cons, List.length_nil]; omega) (by rw [Nat.zero_add, Nat.mul_one, ← hctd]; exact List.set_append_left _ _ (by simp only [List.length_map, List.length_append, List.length_take, List.length_drop]; omega)) ((zc kR).trans zw).symm ?_;refine qe zf ?_;refine qg (qA ak ?_);refine qg (qd ?_);exact back (m := _) ⟨k + 1, rfl, rfl, rfl, by omega⟩ af zg zl zn
  ·
   have hk8 : k = 8 := by omega
   subst hk8;have e8 : ((s8L (ground s b)).take 8 ++ (s8L s).drop 8).map u32v = s8C (ground s b) := rfl;rw [e8];refine qd ?_;refine DoRet.none (qh (zu (zv kS))) zl ?_;rfl
end Go.Brd
namespace Go.Brd
open Go Go.Brd Go.Proofs
set_option linter.unusedVariables false
theorem ag_244 : aggN Tryz.prog 244 10 = true := by kernel_rfl
theorem fi_244_0 : fieldIs Tryz.prog 244 0 0 = true := by kernel_rfl
theorem fi_244_1 : fieldIs Tryz.prog 244 1 8 = true := by kernel_rfl
theorem fi_244_2 : fieldIs Tryz.prog 244 2 9 = true := by kernel_rfl
theorem si_109 : sizeIs Tryz.prog 109 1 = true := by kernel_rfl
theorem si_244 : sizeIs Tryz.prog 244 10 = true := by kernel_rfl
theorem zc_244 : zeroC Tryz.prog 244 = some ([.int .u32 0, .int .u32 0, .int .u32 0, .int .u32 0, .int .u32 0, .int .u32 0, .int .u32 0, .int .u32 0, .slice none 0 0, .int .i64 0]) := by kernel_rfl
theorem blocksN_add (s : S8) (b : List UInt8) (q : Nat) : ∀ k, blocksN s b (q + k) = blocksN (blocksN s b q) (b.drop (64 * q)) k
 | 0 => rfl
 | k + 1 => by
  show ground (blocksN s b (q + k)) (b.drop (64 * (q + k))) = ground (blocksN (blocksN s b q) (b.drop (64 * q)) k) ((b.drop (64 * q)).drop (64 * k));rw [blocksN_add s b q k, List.drop_drop, Nat.mul_add]
theorem byt_append {x y : List UInt8} {k : Nat} (h : k < x.length) : byt (x ++ y) k = byt x k := by
 unfold byt; rw [List.getD_eq_getElem?_getD, List.getElem?_append_left h, ← List.getD_eq_getElem?_getD]
theorem blocksN_left (s : S8) (x y : List UInt8) : ∀ q, 64 * q ≤ x.length → blocksN s (x ++ y) q = blocksN s x q
 | 0, _ => rfl
 | q + 1, h => by
  show ground (blocksN s (x ++ y) q) ((x ++ y).drop (64 * q)) = ground (blocksN s x q) (x.drop (64 * q));rw [blocksN_left s x y q af];exact ground_congr (fun k hk => by rw [byt_drop, byt_drop, byt_append af])
def restB (x : List UInt8) : List UInt8 := x.drop (64 * (x.length / 64))
theorem restB_len (x : List UInt8) : (restB x).length < 64 := by unfold restB; rw [List.length_drop]; omega
theorem rest_append (x y : List UInt8) : (x ++ y).drop (64 * (x.length / 64)) = restB x ++ y := by
 unfold restB; rw [List.drop_append_of_le_length af]
theorem quo_append (x y : List UInt8) : (x ++ y).length / 64 = x.length / 64 + (restB x ++ y).length / 64 := by
 unfold restB; simp only [List.length_append, List.length_drop]; omega
theorem mill_words (x y : List UInt8) : blocksN sha0 (x ++ y) ((x ++ y).length / 64) = blocksN (blocksN sha0 x (x.length / 64)) (restB x ++ y) ((restB x ++ y).length / 64) := by
 rw [quo_append, blocksN_add, rest_append, blocksN_left sha0 x y (x.length / 64) af]
theorem mill_rest (x y : List UInt8) : restB (x ++ y) = (restB x ++ y).drop (64 * ((restB x ++ y).length / 64)) := by
 conv => lhs; unfold restB
 rw [quo_append, Nat.mul_add, ← List.drop_drop, rest_append]
def millC (x : List UInt8) (rv : Value) : List Value := s8C (blocksN sha0 x (x.length / 64)) ++ [rv, .int .i64 ((x.length : Nat) : Int)]
theorem ux_i2 : ∃ k, Tryz.prog.underlying 3 = some (.int k) := ux_i
theorem clone_bytes {c : World} {h : GH} {L : Own} {v : Value} {ls : List (List Value)} (hs : Sl h v 1 ls) (hsm : ls.length ≤ 1073741824):
 Fun Tryz.prog c 229 #[v] h L (fun u _ L' => ∃ N, L' = N ++ L ∧ OS 5 1 u ls N) := by
 refine zS (N := 8) (args := [v]) Tryz.func229 ?_;refine qg (qd ?_);refine qg (qg (eqNil un_109 hs (fun e4 => ?_) ?_))
 ·
  refine qd ?_;refine qg (qd ?_);refine ze rfl ?_;exact ⟨[], rfl, by subst e4; exact OS.nil _ _⟩
 ·
  refine qd ?_;refine qg (buildSlice0 sl_109 ?_);intro v5 N5 hv5;refine qg (qg (qp sl_109 sl_109 z_5 aa aa kR (by simpa using hsm) ?_));intro v7 N7 hv7;refine ⟨_, kR.symm, ?_⟩;refine qg (qd ?_);refine DoRet.r1 (.tmp rfl) (qh (List.Sublist.append_left kS _)) zl ?_;exact ⟨N7, rfl, by simpa using hv7⟩
theorem dig_feed {c : World} {h : GH} {L : Own} {rv v1 : Value} {x y : List UInt8} (hg : GK h) (hr : RBytes h rv (restB x)) (hy : RBytes h v1 y) (hsm : x.length + y.length ≤ 30000):
 Fun Tryz.prog c 200 #[.agg (millC x rv).toArray, v1] h L (fun u h' L' => (∃ rv', u = .agg (millC (x ++ y) rv').toArray ∧ RBytes h' rv' (restB (x ++ y))) ∧ L = L') := by
 have hrl := restB_len x;have hlt : (blocksN sha0 x (x.length / 64)).Lt := blocksN_lt sha0_lt _ _;have hor : oneCell rv = true := Sl.one hr;refine zS (N := 29) (args := [.agg (millC x rv).toArray, v1]) Tryz.func200 ?_;refine qg (box_own rfl ?_);intro b2;refine qg (qa zc_244 ?_);intro b4;refine qd ?_;refine qg (qw fi_244_1 ?_);refine qg (qO (v := rv) sc_109 (kT kH) rfl ?_);refine qg (qg (buildSliceN (ls := [[_], [_]]) sl_197 zc_109 (qy ac (qy ac Parts.nil)) rfl rfl (all2 rfl rfl) (all2 ad ad) ah ah ?_));intro v9 h2 le1 hv9;replace hr := hr.mono le1; replace hy := hy.mono le1; replace hg := hg.mono le1;refine qg (qc (Fun.frozen (by rw [List.length_map, catB_len]; simp [sumLen]; omega) (concat_bytes (ps := [(rv, restB x), (v1, y)]) ⟨hv9, all2 hr hy⟩ (by simp [sumLen]; omega))) ?_);rintro v10 h4 L_ le3 ⟨rfl, hv10⟩;replace hy := hy.mono le3; replace hg := hg.mono le3;have hcat : catB [(rv, restB x), (v1, y)] = restB x ++ y := by simp [catB]
 rw [hcat] at hv10;have hzl : (restB x ++ y).length = (restB x).length + y.length := by simp
 have hmw := mill_words x y;have hmr := mill_rest x y;obtain ⟨z0, hz0⟩ : ∃ z, restB x ++ y = z := ⟨_, rfl⟩;rw [hz0] at hv10 hzl hmw hmr;refine qg (qd ?_);refine qL (fun s0 nn s' h' L' => ∃ (k : Nat) (z : Value), s' = [(5, z)] ++ qR s0 [1, 2, 4] ∧ nn = z0.length / 64 - k ∧ (b4, .cells (List.replicate 8 (Value.int .u32 0) ++ [Value.slice none 0 0, Value.int .i64 0]).toArray 244 (0, 0)) :: (b2, .cells (s8C (blocksN (blocksN sha0 x (x.length / 64)) z0 k) ++ [rv, .int .i64 ((x.length : Nat) : Int)]).toArray 244 (0, 0)) :: L = L' ∧ 64 * k ≤ z0.length ∧ RBytes h' z (z0.drop (64 * k))) ⟨0, _, rfl, rfl, rfl, ?_⟩ zg zl zn ?_
 · exact ⟨Nat.zero_le _, hv10⟩
 rintro nn s1 h5 L_ le6 ⟨k, z, rfl, rfl, rfl, hk, hz⟩;replace hy := hy.mono le6; replace hg := hg.mono le6;refine qg (qg (qm sl_109 aa ?_));refine qg (geqB (fun c13 => ?_) (fun c13 => ?_))
 ·
  rw [List.length_drop] at c13;have hlk := blocksN_lt hlt z0 k;refine qd ?_;refine qg (qw fi_244_0 ?_);refine qg (qg (DoCall.box ((zc kR).trans zw) ((dig_grind (s := blocksN (blocksN sha0 x (x.length / 64)) z0 k) (b := z0.drop (64 * k)) hg hlk hz (by rw [List.length_drop]; omega) (by rw [List.length_drop]; omega)).mono (K' := fun _ _ L' => True ∧ _ = L') (fun _ _ _ _ e => ⟨trivial, e⟩)) ((zc kR).trans zw).symm ?_));rintro v16 h8 le7 _;replace hz := hz.mono le7;refine qd ?_;refine qg (qg (slice_sl_lo (lo := 64) sl_109 aa af (by rw [List.length_map, List.length_drop]; omega) ?_));intro v18 hv18
  try rw [← List.map_take] at hv18
  try rw [← List.map_drop] at hv18
  refine qg (qd ?_);exact back (m := _) ⟨k + 1, v18, rfl, rfl, rfl, by omega, by rw [Nat.mul_add, ← List.drop_drop]; exact hv18⟩ af zg zl zn
 ·
  rw [List.length_drop] at c13;have hke : k = z0.length / 64 := by omega
  rw [hke] at hz ⊢;rw [← hmw];rw [← hmr] at hz;refine qd ?_;refine qD mixed [8, 10] [0, 1, 2, 3, 4, 5, 6, 7, 8, 9, 10] (_ :: []) ae (qq (kT kH) sub_nil) ?_;refine qr rfl rfl rfl (qw fi_244_2 ?_);refine qr rfl rfl rfl (qO (v := .int .i64 ((x.length : Nat) : Int)) sc_3 kH rfl ?_);refine qr rfl rfl rfl (qr rfl rfl rfl (qm sl_109 aa ?_));refine qr rfl rfl rfl (qA ak ?_);refine qr rfl rfl rfl (qj rfl rfl rfl ?_);refine qc (Fun.frozen (by rw [List.length_map]; have := restB_len (x ++ y); omega) (clone_bytes hz (by rw [List.length_map]; have := restB_len (x ++ y); omega))) ?_;rintro v25 h10 L_ le9 ⟨rfl, hv25⟩;refine ⟨(qq (kT kH) sub_nil), ?_⟩;refine qr rfl rfl rfl (qw fi_244_2 ?_);refine DoDr.drop rfl rfl rfl ?_;refine kB si_3 ac ai ad ((zc kR).trans zw) ab rfl ((zc kR).trans zw).symm ?_;refine qr rfl rfl rfl (qw fi_244_1 ?_);refine DoDr.drop rfl rfl rfl ?_;refine kB si_109 ac ai ad ((zc kR).trans zw) ab rfl ((zc kR).trans zw).symm ?_;refine qe zf ?_;refine qg (qx ag_244 (kT kH) ab an ?_);refine qg (kB si_244 ac ai ad kR ab rfl kR.symm ?_);refine qd ?_;refine DoRet.r1 (.cell rfl (qx ag_244 kH ab an rfl)) (qh (zu (zu kS))) zl ?_;refine ⟨⟨v25, ?_, hv25⟩, rfl⟩;unfold millC
  generalize blocksN sha0 (x ++ y) ((x ++ y).length / 64) = W
  rw [List.length_append, Int.natCast_add];rfl
end Go.Brd
namespace Go.Brd
open Go Go.Brd Go.Proofs
set_option linter.unusedVariables false
theorem ff_244_0 : fieldOf Tryz.prog 244 0 211 0 = true := by kernel_rfl
theorem pl_244 : placesOf Tryz.prog 244 = some [(0, 8), (8, 1), (9, 1)] := by kernel_rfl
theorem pl_f200 : plain Tryz.prog 200 = true := by kernel_rfl
theorem millC_nil : millC [] (.slice none 0 0) = s8C sha0 ++ [.slice none 0 0, .int .i64 0] := rfl
theorem written_byte (s : S8) {i j x : Nat} (hi : i < 8) (hj : j < 4) (hx : (s8L s)[i]? = some x) : (writtenB s)[4 * i + j]? = some (UInt8.ofNat (x / 2 ^ (24 - 8 * j))) := by
 have := writtenB_at s (k := 4 * i + j) (x := x) af (by rw [show (4 * i + j) / 4 = i by omega]; exact hx);rw [show (4 * i + j) % 4 = j by omega] at this; exact this
theorem sha_of_tail (b : List UInt8) : writtenB (blocksN sha0 (b ++ tailB b.length) ((b ++ tailB b.length).length / 64)) = sha b := rfl
theorem catB_take_snoc {ps : List (Value × List UInt8)} {k : Nat} {p : Value × List UInt8} (h : ps[k]? = some p) : catB (ps.take (k + 1)) = catB (ps.take k) ++ p.2 := by
 rw [List.take_add_one, h]; exact catB_snoc _ _
theorem rb_nil {h : GH} : RBytes h (.slice none 0 0) (restB []) := ⟨by simp [restB], by simp [restB], by simp [restB], none, 0, by simp [restB], by simp [restB], by decide, .inl (by simp [restB])⟩
theorem dig_start {c : World} {h : GH} {L : Own} :
 Fun Tryz.prog c 199 #[] h L (fun u _ L' => u = .agg (millC [] (.slice none 0 0)).toArray ∧ L = L') := by
 refine zS (N := 3) (args := []) Tryz.func199 ?_;refine qg (qa zc_244 ?_);intro b0;refine qd ?_;refine qg (build_array zc_211 ar_211 (qy ac (qy ac (qy ac (qy ac (qy ac (qy ac (qy ac (qy ac Parts.nil)))))))) rfl ?_);refine qg (build_struct zc_244 pl_244 (qy ac Parts.nil) rfl ?_);refine qg (kB si_244 ac ai ad kR ab rfl kR.symm ?_);refine qd ?_;refine DoRet.r1 (.cell rfl (qx ag_244 kH ab an rfl)) (qh (zu kS)) zl ?_;rw [millC_nil]; exact ⟨rfl, rfl⟩
theorem dig_end {c : World} {h : GH} {L : Own} {rv : Value} {b : List UInt8} (hg : GK h) (hr : RBytes h rv (restB b)) (hsm : b.length ≤ 20000):
 Fun Tryz.prog c 201 #[.agg (millC b rv).toArray] h L (fun u _ L' => u = idV (sha b) ∧ L = L') := by
 have hpl := padN_lt b.length;have htl := tailB_len b.length;have hpd : padN b.length = (119 - b.length % 64) % 64 := rfl;refine zS (N := 66) (args := [.agg (millC b rv).toArray]) Tryz.func201 ?_;refine qg (box_at rfl ?_);intro p1 h2 le1 hp1;replace hg := hg.mono le1; replace hr := hr.mono le1;refine qg (qa zc_74 ?_);intro b2;refine qd ?_;refine qg (qf fi_244_2 aa ?_);intro p8 hp8;refine qg (load_atD (v := .int .i64 ((b.length : Nat) : Int)) sc_3 hp8 rfl ?_);refine qg (conv_u64 it_3_52 af ?_);refine qg (mul_u64n (b := 8) af ?_);rw [Nat.mul_comm b.length 8];refine qg (qd ?_);refine qg (buildSliceO (ls := [[.int .u8 128]]) sl_109 zc_5 (qy ac Parts.nil) rfl rfl (all1 rfl) (all1 rfl) ah ah ?_);intro v12 N12 hv12;refine qg (qf fi_244_2 aa ?_);intro p13 hp13;refine qg (load_atD (v := .int .i64 ((b.length : Nat) : Int)) sc_3 hp13 rfl ?_);refine qg (rem_nat (a := b.length) (b := 64) ah ?_);refine qg (sub_i64n (a := 119) (b := b.length % 64) af ah ?_);refine qg (rem_nat (a := 119 - b.length % 64) (b := 64) ah ?_);rw [← hpd];refine qg (append_zeros sl_109 ux_i (zero1_of zv_5 z_5 si_5 rfl) z_5 rfl hv12 kR ar ?_);intro v18 N18 hv18;refine ⟨_, kR.symm, ?_⟩;refine qg (qd ?_);refine qg (qd ?_);refine qL (fun s0 nn s' h' L' => ∃ (i : Nat) (v : Value) (N : Own), s' = [(4, v), (5, .int .i64 ((56 : Int) - ((8 * i : Nat) : Int)))] ++ qR s0 [1, 2, 3] ∧ nn = 8 - i ∧ N ++ ((b2, .cells (List.replicate 32 (Value.int .u8 0)).toArray 74 (0, 0)) :: L) = L' ∧ i ≤ 8 ∧ OB v (128 :: (List.replicate (padN b.length) 0 ++ (be64 (8 * b.length)).take i)) N) ⟨0, _, _, rfl, rfl, rfl, ?_⟩ zg zl zn ?_
 · exact ⟨Nat.zero_le _, by simpa [OB, u8C, u8V] using hv18⟩
 rintro nn s1 h3 L_ le4 ⟨i, v, N, rfl, rfl, rfl, hi, hv⟩;replace hg := hg.mono le4; replace hr := hr.mono le4; replace hp1 := hp1.mono le4;refine qg (qg (geqB (fun c20 => ?_) (fun c20 => ?_)))
 ·
  refine qd ?_;refine qg (qg (qg (qg ?_)));rw [show (56 : Int) - ((8 * i : Nat) : Int) = ((56 - 8 * i : Nat) : Int) by omega];refine shr_nat (n := 56 - 8 * i) (by show _ ≤ 64; omega) ?_;refine qg (conv_u8 it_52_5 ?_);refine qg (qB sl_109 z_5 rfl ag ah aj ?_);intro v28 h6 le5 hv28;refine qg (qp sl_109 sl_109 z_5 aa aa kR (by simp [be64_len]; omega) ?_);intro v29 N29 hv29;refine ⟨_, kR.symm, ?_⟩;refine qg (qd ?_);refine qg (qg (sub_i64 ak ?_));refine qg (qd ?_)
  exact back (m := _) ⟨i + 1, v29, N29, by rw [show (56 : Int) - ((8 * (i + 1) : Nat) : Int) = ((56 - 8 * i : Nat) : Int) - 8 by omega], rfl, rfl, by omega, by
   rw [be64_step _ af, ← List.append_assoc, ← List.cons_append]; exact OB.snoc (v' := v29) (q := v29) hv29⟩ af zg zl zn
 ·
  have hi8 : i = 8 := by omega
  subst hi8;rw [List.take_of_length_le (by rw [be64_len]; decide)] at hv
  change OB v (tailB b.length) N at hv
  refine qd ?_;refine qg (qX ag_244 aa ag ?_);refine qg (qg (DoCall.freeze pl_f200 hv al kR ?_));intro h7 le8 hv;replace hg := hg.mono le8; replace hr := hr.mono le8;refine qc (dig_feed (x := b) (y := tailB b.length) hg hr hv af) ?_;rintro v32 h10 L_ le9 ⟨⟨rv2, rfl, hrv2⟩, rfl⟩;have hsw := sha_of_tail b;obtain ⟨W, hW⟩ : ∃ W, blocksN sha0 (b ++ tailB b.length) ((b ++ tailB b.length).length / 64) = W := ⟨_, rfl⟩;unfold millC;rw [hW] at hsw ⊢;have hWL : W.Lt := by rw [← hW]; exact blocksN_lt sha0_lt _ _
  refine qg (field_aggX (r := s8C W) ff_244_0 ag_211 rfl ?_);refine qg (qd ?_);refine qL (fun s0 nn s' h' L' => ∃ (i : Nat), s' = [(34, .int .i64 i)] ++ qR s0 [2, 33] ∧ nn = 8 - i ∧ (b2, .cells (((writtenB W).take (4 * i) ++ (List.replicate 32 (0 : UInt8)).drop (4 * i)).map u8V).toArray 74 (0, 0)) :: L = L' ∧ i ≤ 8) ⟨0, rfl, rfl, rfl, ?_⟩ zg zl zn ?_
  · exact Nat.zero_le _
  rintro nn s1 h11 L_ le12 ⟨i, rfl, rfl, rfl, hi⟩;refine qg (lssB (fun c35 => ?_) (fun c35 => ?_))
  ·
   have hil : i < 8 := by omega
   obtain ⟨x, hx⟩ := s8_at W hil;have hxl := s8_lt hWL hx;have hwb := fun (j : Nat) (hj : j < 4) => written_byte W hil hj hx
   have hw3 : (writtenB W)[4 * i + 3]? = some (UInt8.ofNat x) := by have h3 := hwb 3 ah; simpa using h3
   have hwl : (writtenB W).length = (List.replicate 32 (0 : UInt8)).length := by rw [writtenB_len, List.length_replicate]
   have hxg := map_get (f := u32v) hx;refine qd ?_;refine qg (qg (index_sc (k := i) ar_211 sc_53 ao ap (show _ = some (.int .u32 (x : Nat)) from hxg) ?_));refine qg (qg (qd ?_));refine qg (qg (mul_i64n (a := 4) (b := i) af ?_));refine qg (qg (mul_i64n (a := 4) (b := i) af ?_));refine qg (add_i64n (a := 4 * i) (b := 1) af ?_);refine qg (qg (mul_i64n (a := 4) (b := i) af ?_));refine qg (add_i64n (a := 4 * i) (b := 2) af ?_);refine qg (qg (mul_i64n (a := 4) (b := i) af ?_));refine qg (add_i64n (a := 4 * i) (b := 3) af ?_);refine qg (qg (shr_nat (n := 24) ah ?_));refine qg (conv_u8 it_53_5 ?_);refine qg (qg (shr_nat (n := 16) ah ?_));refine qg (conv_u8 it_53_5 ?_);refine qg (qg (shr_nat (n := 8) ah ?_));refine qg (conv_u8 it_53_5 ?_);refine qg (qg (conv_u8 it_53_5 ?_));refine qg (indexArr_own (k := 4 * i) ar_74 ao ap ?_);refine qg (kB (l' := ((writtenB W).take (4 * i + 1) ++ (List.replicate 32 (0 : UInt8)).drop (4 * i + 1)).map u8V) si_5 ac ai ad kR (by simp only [List.length_map, List.length_append, List.length_take, List.length_drop, List.length_replicate, writtenB_len]; omega) (by rw [Nat.zero_add, Nat.mul_one]; exact u8_td (hwb 0 ah) hwl) kR.symm ?_);refine qg (indexArr_own (k := 4 * i + 1) ar_74 ao ap ?_);refine qg (kB (l' := ((writtenB W).take (4 * i + 2) ++ (List.replicate 32 (0 : UInt8)).drop (4 * i + 2)).map u8V) si_5 ac ai ad kR (by simp only [List.length_map, List.length_append, List.length_take, List.length_drop, List.length_replicate, writtenB_len]; omega) (by rw [Nat.zero_add, Nat.mul_one]; exact u8_td (hwb 1 ah) hwl) kR.symm ?_);refine qg (indexArr_own (k := 4 * i + 2) ar_74 ao ap ?_);refine qg (kB (l' := ((writtenB W).take (4 * i + 3) ++ (List.replicate 32 (0 : UInt8)).drop (4 * i + 3)).map u8V) si_5 ac ai ad kR (by simp only [List.length_map, List.length_append, List.length_take, List.length_drop, List.length_replicate, writtenB_len]; omega) (by rw [Nat.zero_add, Nat.mul_one]; exact u8_td (hwb 2 ah) hwl) kR.symm ?_);refine qg (indexArr_own (k := 4 * i + 3) ar_74 ao ap ?_);refine qg (kB (l' := ((writtenB W).take (4 * i + 4) ++ (List.replicate 32 (0 : UInt8)).drop (4 * i + 4)).map u8V) si_5 ac ai ad kR (by simp only [List.length_map, List.length_append, List.length_take, List.length_drop, List.length_replicate, writtenB_len]; omega) (by rw [Nat.zero_add, Nat.mul_one]; exact u8_td hw3 hwl) kR.symm ?_);refine qd ?_;refine qg (qA ak ?_);refine qg (qd ?_);exact back (m := _) ⟨i + 1, rfl, rfl, rfl, by omega⟩ af zg zl zn
  ·
   have hi8 : i = 8 := by omega
   subst hi8
   have e32 : ((writtenB W).take (4 * 8) ++ (List.replicate 32 (0 : UInt8)).drop (4 * 8)).map u8V = idC (sha b) := by
    rw [List.take_of_length_le (by rw [writtenB_len]; decide), hsw]; simp [idC]
   rw [e32];have hcl : (idC (sha b)).length = 32 := by rw [idC_length, sha_len]
   generalize sha b = w at hcl ⊢
   refine qd ?_;refine qg (qx (r := idC w) ag_74 kH (by rw [hcl]; decide) (by rw [List.drop_zero, List.take_of_length_le (by rw [hcl]; decide)]) ?_);refine qg (kB (l' := idC w) si_74 ac hcl (idC_one _) kR (by rw [hcl]; decide) (over_all rfl) kR.symm ?_);refine qd ?_;refine DoRet.r1 (.cell rfl (qx (r := idC w) ag_74 kH (by rw [hcl]; decide) (by rw [List.drop_zero, List.take_of_length_le (by rw [hcl]; decide)]) rfl)) (qh (zu kS)) zl ?_;exact ⟨rfl, rfl⟩
theorem pieces1 {c : World} {h : GH} {L : Own} {v : Value} {b : List UInt8} (hb : RBytes h v b) (hl : b.length ≤ 10000):
 Fun Tryz.prog c 198 #[v] h L (fun u _ L' => u = .bool false ∧ L = L') := by
 refine zS (N := 6) (args := [v]) Tryz.func198 ?_;refine qg (qd ?_);refine qg (qg (qm sl_109 aa ?_));refine qg (gtrB (fun c5 => ?_) (fun c5 => ?_))
 ·
  omega
 ·
  refine qg (qd ?_);refine ze rfl ?_;exact ⟨rfl, rfl⟩
theorem indexfunc_bss {c : World} {h : GH} {L : Own} {v : Value} {ps : List (Value × List UInt8)} (hs : RBss h v ps) (hl : ∀ p ∈ ps, p.2.length ≤ 10000):
 Fun Tryz.prog c 227 #[v, .func (.func 198) #[] #[]] h L (fun u _ L' => u = .int .i64 (-1) ∧ L = L') := by
 have hsm := hs.sl.small; rw [List.length_map] at hsm;refine zS (N := 19) (args := [v, .func (.func 198) #[] #[]]) Tryz.func227 ?_;refine qg (qd ?_);refine qg (qg (qm sl_197 hs.sl ?_));refine qg (qd ?_);refine qL (fun s0 nn s' h' L' => ∃ (k : Nat), s' = [(8, .int .i64 k)] ++ qR s0 [0, 1, 7] ∧ nn = ps.length - k ∧ L = L' ∧ k ≤ ps.length) ⟨0, rfl, rfl, rfl, ?_⟩ zg zl zn ?_
 · exact Nat.zero_le _
 rintro nn s1 h1 L_ le2 ⟨k, rfl, rfl, rfl, hk⟩;replace hs := hs.mono le2;refine qg (lssB (fun c9 => ?_) (fun c9 => ?_))
 ·
  have hkl : k < ps.length := by omega
  obtain ⟨x, hx⟩ := qE hkl;have hxb := hs.each x (List.mem_of_getElem? hx);refine qd ?_;refine qg (qg (qd ?_));refine qg (qg (qg (qg (qi (k := k) sl_197 hs.sl rfl hx ?_))));intro p14 r14 hl14 hp14;refine qg (ql sc_109 aa ?_);refine qg (qc (pieces1 hxb (hl x (List.mem_of_getElem? hx))) ?_);rintro v16 h4 L_ le3 ⟨rfl, rfl⟩;refine qd ?_;refine qg (qA ak ?_);refine qg (qd ?_);exact back (m := _) ⟨k + 1, rfl, rfl, rfl, by omega⟩ af zg zl zn
 ·
  refine qd ?_;refine qg (qd ?_);refine ze rfl ?_;exact ⟨rfl, rfl⟩
theorem containsfunc_bss {c : World} {h : GH} {L : Own} {v : Value} {ps : List (Value × List UInt8)} (hs : RBss h v ps) (hl : ∀ p ∈ ps, p.2.length ≤ 10000):
 Fun Tryz.prog c 197 #[v, .func (.func 198) #[] #[]] h L (fun u _ L' => u = .bool false ∧ L = L') := by
 refine zS (N := 9) (args := [v, .func (.func 198) #[] #[]]) Tryz.func197 ?_;refine qg (qd ?_);refine qg (qg (qg (qc (indexfunc_bss hs hl) ?_)));rintro v7 h2 L_ le1 ⟨rfl, rfl⟩;refine qg (geqB (fun c8 => ?_) (fun c8 => ?_))
 ·
  omega
 ·
  refine qg (qd ?_);refine ze rfl ?_;exact ⟨rfl, rfl⟩
end Go.Brd
namespace Go.Brd
open Go Go.Brd Go.Proofs
set_option linter.unusedVariables false
theorem z_109 : zeroIs Tryz.prog 109 1 = true := by kernel_rfl
def be4s (l : List Nat) : List UInt8 := l.flatMap be4
theorem be4s_len (l : List Nat) : (be4s l).length = 4 * l.length := by
 induction l with
 | nil => rfl
 | cons a l ih => simp only [be4s, List.flatMap_cons, List.length_append, List.length_cons] at ih ⊢; rw [ih, be4_len]; omega
theorem be4s_snoc {l : List Nat} {k n : Nat} (h : l[k]? = some n) : be4s (l.take (k + 1)) = be4s (l.take k) ++ be4 n := by
 rw [List.take_add_one, h]; simp [be4s]
theorem dig_pieces {c : World} {h : GH} {L : Own} {v : Value} {ps : List (Value × List UInt8)} (hg : GK h) (hs : RBss h v ps) (hn : ps.length ≤ 20) (hl : ∀ p ∈ ps, p.2.length ≤ 10000) (hsm : sumLen ps ≤ 15000):
 Fun Tryz.prog c 152 #[v] h L (fun u _ L' => u = .tuple #[idV (sha (catB ps)), .int .i64 0] ∧ L = L') := by
 refine zS (N := 28) (args := [v]) Tryz.func152 ?_;refine qg (qa zc_74 ?_);intro b2;refine qg (qd ?_);refine qg (qg (qm sl_197 hs.sl ?_));refine qg (gtrB (fun c9 => ?_) (fun c9 => ?_))
 ·
  omega
 ·
  refine qg (kG rfl rfl ?_);refine kG rfl rfl ?_;refine qc (containsfunc_bss hs hl) ?_;rintro v12 h2 L_ le1 ⟨rfl, rfl⟩;replace hg := hg.mono le1; replace hs := hs.mono le1;refine qg (qd ?_);refine qg (qc (dig_start) ?_);rintro v15 h4 L_ le3 ⟨rfl, rfl⟩;replace hg := hg.mono le3; replace hs := hs.mono le3;refine qg (qa zc_244 ?_);intro b4;refine qg (kB (l' := millC [] (.slice none 0 0)) si_244 ac ai ad kR ab rfl kR.symm ?_);refine qd ?_;refine qg (qg (qm sl_197 hs.sl ?_));refine qg (qd ?_);refine qL (fun s0 nn s' h' L' => ∃ (k : Nat) (rv : Value), s' = [(18, .int .i64 k)] ++ qR s0 [2, 4, 16, 17] ∧ nn = ps.length - k ∧ (b4, .cells (millC (catB (ps.take k)) rv).toArray 244 (0, 0)) :: (b2, .cells (List.replicate 32 (Value.int .u8 0)).toArray 74 (0, 0)) :: L = L' ∧ k ≤ ps.length ∧ RBytes h' rv (restB (catB (ps.take k)))) ⟨0, _, rfl, rfl, rfl, ?_⟩ zg zl zn ?_
  · exact ⟨Nat.zero_le _, rb_nil⟩
  rintro nn s1 h5 L_ le6 ⟨k, rv, rfl, rfl, rfl, hk, hrv⟩;replace hg := hg.mono le6; replace hs := hs.mono le6;refine qg (lssB (fun c19 => ?_) (fun c19 => ?_))
  ·
   have hkl : k < ps.length := by omega
   obtain ⟨x, hx⟩ := qE hkl;have hxb := hs.each x (List.mem_of_getElem? hx);have hct := catB_take_snoc hx;have hlt1 := sumLen_take ps (k + 1);rw [← catB_len, hct, List.length_append] at hlt1;refine qd ?_;refine qg (qi (k := k) sl_197 hs.sl rfl hx ?_);intro p20 r20 hl20 hp20;refine qg (ql sc_109 aa ?_);refine qg (qd ?_);refine qg (qx (r := millC (catB (ps.take k)) rv) ag_244 kH ab rfl ?_);refine qg (qg (qc (dig_feed (x := catB (ps.take k)) (y := x.2) hg hrv hxb af) ?_));rintro v24 h8 L_ le7 ⟨⟨rv2, rfl, hrv2⟩, rfl⟩;rw [← hct] at hrv2 ⊢;refine qg (kB (l' := millC (catB (ps.take (k + 1))) rv2) si_244 ac ai (by unfold millC; rw [List.all_append, List.all_cons, Sl.one hrv2]; rfl) kR ab rfl kR.symm ?_);refine qd ?_;refine qg (qA ak ?_);refine qg (qd ?_);exact back (m := _) ⟨k + 1, rv2, rfl, rfl, rfl, by omega, hrv2⟩ af zg zl zn
  ·
   have hkp : k = ps.length := by omega
   subst hkp;rw [List.take_length] at hrv ⊢;have hcs := catB_len ps;refine qd ?_;refine qg (qx (r := millC (catB ps) rv) ag_244 kH ab rfl ?_);refine qg (qc (dig_end hg hrv af) ?_);rintro v27 h10 L_ le9 ⟨rfl, rfl⟩;have hcl : (idC (sha (catB ps))).length = 32 := by rw [idC_length, sha_len]
   generalize sha (catB ps) = w at hcl ⊢
   refine qg (kB (l' := idC w) si_74 ac hcl (idC_one _) ((zc kR).trans zw) ab (over_all (by rw [hcl, List.length_replicate])) ((zc kR).trans zw).symm ?_);refine qg (qd ?_);refine DoRet.r2 (.cell rfl (qx (r := idC w) ag_74 (kT kH) (by rw [hcl]; decide) (by rw [List.drop_zero, List.take_of_length_le (by rw [hcl]; decide)]) rfl)) (.tmp rfl) (qh (zu (zu kS))) zl ?_;exact ⟨rfl, rfl⟩
theorem dig_sum {c : World} {h : GH} {L : Own} {v : Value} {b : List UInt8} (hg : GK h) (hb : RBytes h v b) (hsm : b.length ≤ 10000):
 Fun Tryz.prog c 100 #[v] h L (fun u _ L' => u = .tuple #[idV (sha b), .int .i64 0] ∧ L = L') := by
 refine zS (N := 9) (args := [v]) Tryz.func100 ?_;refine qg (qa zc_74 ?_);intro b2;refine qg (qd ?_);refine qg (qg (qB sl_197 z_109 (Sl.cells aa) rfl ah (one1 (Sl.one aa)) ?_));intro v5 h2 le1 hv5;replace hg := hg.mono le1; replace hb := hb.mono le1;refine qg (qc (dig_pieces (ps := [(v, b)]) hg ⟨hv5, all1 hb⟩ am (all1 hsm) (by simp [sumLen]; omega)) ?_);rintro v6 h4 L_ le3 ⟨rfl, rfl⟩;rw [show catB [(v, b)] = b by simp [catB]];have hcl : (idC (sha b)).length = 32 := by rw [idC_length, sha_len]
 generalize sha b = w at hcl ⊢
 refine qg (qg (qg (kB (l' := idC w) si_74 ac hcl (idC_one _) kR ab (over_all (by rw [hcl, List.length_replicate])) kR.symm ?_)));refine qg (qd ?_);refine DoRet.r2 (.cell rfl (qx (r := idC w) ag_74 kH (by rw [hcl]; decide) (by rw [List.drop_zero, List.take_of_length_le (by rw [hcl]; decide)]) rfl)) (.tmp rfl) (qh (zu kS)) zl ?_;exact ⟨rfl, rfl⟩
end Go.Brd
namespace Go.Brd
open Go Go.Brd Go.Proofs
set_option linter.unusedVariables false
def powF (a : Nat) : Nat → Nat → Nat
 | 0, _ => 1
 | f + 1, n => if n = 0 then 1 else (fun q => if n % 2 = 1 then q * a % 1000000007 else q) (powF a f (n / 2) * powF a f (n / 2) % 1000000007)
theorem powF_eq (a : Nat) : ∀ (f n : Nat), n < 2 ^ f → powF a f n = powM a n
 | 0, n, h => by
  have : n = 0 := by simp at h; exact h
  subst this; rfl
 | f + 1, n, h => by
  unfold powF;by_cases h0 : n = 0
  · rw [if_pos h0, h0]; rfl
  · rw [if_neg h0, powF_eq a f (n / 2) (by rw [Nat.pow_succ] at h; omega)]
    have := powM_step a n 0;simp only [Nat.pow_zero, Nat.div_one, Nat.zero_add, Nat.pow_one] at this;rw [this]
theorem isG_4 : isG 4 = true := isG_iff.2 ⟨⟨by decide, by decide⟩, by rw [← powF_eq 4 29 500000003 ah]; decide +kernel⟩
theorem isG_base (n : Nat) : isG (powM 4 n) = true := isG_pow isG_4
theorem be4s_one (x : Nat) : be4s [x] = be4 x := by simp [be4s]
theorem be4s_two (x y : Nat) (m : List UInt8) : be4s [x, y] ++ m = be4 x ++ (be4 y ++ m) := by simp [be4s]
def sigE (k : Nat) (m : List UInt8) : Nat := chalN (powM 4 (nonceN k m)) (powM 4 k) m
def sigS (k : Nat) (m : List UInt8) : Nat := (nonceN k m + sigE k m * k % 500000003) % 500000003
theorem nonceN_lt (k : Nat) (m : List UInt8) : nonceN k m < 500000003 := by
 have h : numD (sha (110 :: (be4 k ++ m))) 8 % 500000002 < 500000002 := Nat.mod_lt _ ah;unfold nonceN; omega
theorem numD_or {w : List UInt8} {k : Nat} (h : k < 8) : (numD w k * 2 ^ 8 % 18446744073709551616) ||| byt w k = numD w (k + 1) := by
 have h1 := numD_lt7 w h;rw [show (2 : Nat) ^ 8 = 256 from rfl, Nat.mod_eq_of_lt af, or_byte (byt_lt w k)];show _ = 256 * numD w k + byt w k;rw [Nat.mul_comm]
theorem u8_lit {n : Nat} (h : n < 256) : u8C (UInt8.ofNat n) = [.int .u8 (n : Int)] := by rw [u8C, u8_ofNat, Nat.mod_eq_of_lt h]
theorem sign_hash {c : World} {h : GH} {L : Own} {kind : Nat} {vm vl : Value} {m : List UInt8} {l : List Nat} (hg : GK h) (hk : kind < 256) (hm : RBytes h vm m) (hl : RU32 h vl l) (hll : ∀ x ∈ l, x < 4294967296) (h2 : l.length ≤ 2) (hms : m.length ≤ 9000):
 Fun Tryz.prog c 148 #[.int .u8 (kind : Int), vm, vl] h L (fun u _ L' => u = .tuple #[.int .u64 ((numD (sha (UInt8.ofNat kind :: (be4s l ++ m))) 8 : Nat) : Int), .int .i64 0] ∧ L = L') := by
 refine zS (N := 63) (args := [.int .u8 (kind : Int), vm, vl]) Tryz.func148 ?_;refine qg (qg (qd ?_));refine qg (qg (qm sl_109 aa ?_));refine qg (gtrB (fun c18 => ?_) (fun c18 => ?_))
 ·
  omega
 ·
  refine qd ?_;refine qg (qg (buildSliceO (ls := [[.int .u8 (kind : Int)]]) sl_109 zc_5 (qy ac Parts.nil) rfl rfl (all1 rfl) (all1 rfl) ah ah ?_));intro v20 N20 hv20;refine qg (qd ?_);refine qg (qg (qm sl_239 aa ?_));refine qg (qd ?_);refine qL (fun s0 nn s' h' L' => ∃ (k : Nat) (v : Value) (N : Own), s' = [(8, v), (23, .int .i64 k)] ++ qR s0 [1, 21, 22] ∧ nn = l.length - k ∧ N ++ L = L' ∧ k ≤ l.length ∧ OB v (UInt8.ofNat kind :: be4s (l.take k)) N) ⟨0, _, _, rfl, rfl, rfl, ?_⟩ zg zl zn ?_
  · refine ⟨Nat.zero_le _, ?_⟩
    unfold OB; rw [List.map_cons, u8_lit hk]; exact hv20
  rintro nn s1 h1 L_ le2 ⟨k, v, N, rfl, rfl, rfl, hkl, hv⟩;replace hg := hg.mono le2; replace hm := hm.mono le2; replace hl := hl.mono le2;refine qg (lssB (fun c24 => ?_) (fun c24 => ?_))
  ·
   have hkl2 : k < l.length := by omega
   obtain ⟨n, hn⟩ := qE hkl2;have hnl := hll n (List.mem_of_getElem? hn);have hsn := be4s_snoc hn;have hbl := be4s_len (l.take k);rw [List.length_take] at hbl;refine qd ?_;refine qg (qi (k := k) sl_239 hl rfl hn ?_);intro p25 r25 hl25 hp25;refine qg (ql (v := .int .u32 (n : Nat)) sc_53 hp25 ?_);refine qg (qd ?_);refine qg (qg (qg (shr_nat (n := 24) ah ?_)));refine qg (conv_u8 it_53_5 ?_);refine qg (qg (shr_nat (n := 16) ah ?_));refine qg (conv_u8 it_53_5 ?_);refine qg (qg (shr_nat (n := 8) ah ?_));refine qg (conv_u8 it_53_5 ?_);refine qg (qg (conv_u8 it_53_5 ?_));refine qg (buildSliceN (ls := [[_], [_], [_], [_]]) sl_109 zc_5 (qy ac (qy ac (qy ac (qy ac Parts.nil)))) rfl rfl (all4 rfl rfl rfl rfl) (all4 ad ad ad ad) ah ah ?_);intro v39 h4 le3 hv39;refine qg (qp sl_109 sl_109 z_5 aa (show Sl _ _ 1 ((be4 n).map u8C) by rw [be4_C]; exact hv39) kR (by simp [be4_len]; omega) ?_);intro v40 N40 hv40;refine ⟨_, kR.symm, ?_⟩;refine qg (qd ?_);refine qg (qA ak ?_);refine qg (qd ?_)
   exact back (m := _) ⟨k + 1, v40, N40, rfl, rfl, rfl, by omega, by
    rw [hsn, ← List.cons_append]; exact OB.app (by simpa [OB] using hv40)⟩ af zg zl zn
  ·
   have hke : k = l.length := by omega
   subst hke;rw [List.take_length] at hv;have hbl := be4s_len l;refine qd ?_;refine qg (qg (qg (DoV.freeze hv ar kR ?_)));intro h5 le6 hv;replace hg := hg.mono le6; replace hm := hm.mono le6;refine buildSliceN (ls := [[_], [_]]) sl_197 zc_109 (qy ac (qy ac Parts.nil)) rfl rfl (all2 rfl rfl) (all2 ad ad) ah ah ?_;intro v45 h8 le7 hv45;replace hg := hg.mono le7; replace hm := hm.mono le7; replace hv := hv.mono le7;refine qg (qc (dig_pieces (ps := [(v, UInt8.ofNat kind :: be4s l), (vm, m)]) hg ⟨hv45, all2 hv hm⟩ am (all2 ar ar) (by simp [sumLen]; omega)) ?_);rintro v46 h10 L_ le9 ⟨rfl, rfl⟩;rw [show catB [(v, UInt8.ofNat kind :: be4s l), (vm, m)] = UInt8.ofNat kind :: (be4s l ++ m) by simp [catB]];have hwl := sha_len (UInt8.ofNat kind :: (be4s l ++ m));have hcl : (idC (sha (UInt8.ofNat kind :: (be4s l ++ m)))).length = 32 := by rw [idC_length, hwl]
   generalize sha (UInt8.ofNat kind :: (be4s l ++ m)) = w at hwl hcl ⊢
   refine qg (qg (qg (qg (qa zc_74 ?_))));intro b11;refine qg (kB (l' := idC w) si_74 ac hcl (idC_one _) kR ab (over_all (by rw [hcl, List.length_replicate])) kR.symm ?_);refine qg (qd ?_);refine qg (qd ?_);refine qg (slice_ptr_hi (hi := 8) ar_74 ao ap ?_);refine qg (len_slice sl_109 ?_);refine qg (qd ?_);refine qL (fun s0 nn s' h' L' => ∃ (k : Nat), s' = [(13, .int .u64 ((numD w k : Nat) : Int)), (51, .int .i64 k)] ++ qR s0 [12, 49, 50] ∧ nn = 8 - k ∧ (b11, .cells (idC w).toArray 74 (0, 0)) :: L = L' ∧ k ≤ 8) ⟨0, rfl, rfl, rfl, ?_⟩ zg zl zn ?_
   · exact Nat.zero_le _
   rintro nn s1 h11 L_ le12 ⟨k, rfl, rfl, rfl, hk8⟩;refine qg (lssB (fun c52 => ?_) (fun c52 => ?_))
   ·
    have hk9 : k < 8 := by omega
    have hby := byt_at (b := w) (k := k) af;have hbl2 := byt_lt w k;have hnor := numD_or (w := w) hk9;have hbg := map_get (f := u8V) hby;rw [u8_ofNat, Nat.mod_eq_of_lt hbl2] at hbg;refine qd ?_;refine qg (index_own (k := k) sl_109 ao af ?_);refine qg (qO (v := .int .u8 ((byt w k : Nat) : Int)) sc_5 kH (by rw [Nat.zero_add, Nat.mul_one]; exact hbg) ?_);refine qg (qd ?_);refine qg (qg (shl_u64 (n := 8) ah ?_));refine qg (qg (conv_u64 it_5_52 af ?_));refine qg (or_u64 (Nat.mod_lt _ ah) af ?_);rw [hnor];refine qg (qd ?_);refine qg (qA ak ?_);refine qg (qd ?_);exact back (m := _) ⟨k + 1, rfl, rfl, rfl, by omega⟩ af zg zl zn
   ·
    have hk10 : k = 8 := by omega
    subst hk10;refine qd ?_;refine qg (qg (qg (qg (qd ?_))));refine DoRet.r2 (.tmp rfl) (.tmp rfl) (qh (zu kS)) zl ?_;exact ⟨rfl, rfl⟩
theorem sign_nonce {c : World} {h : GH} {L : Own} {k : Nat} {vm : Value} {m : List UInt8} (hg : GK h) (hk : 1 ≤ k ∧ k < 500000003) (hm : RBytes h vm m) (hms : m.length ≤ 9000):
 Fun Tryz.prog c 94 #[.int .u32 (k : Int), vm] h L (fun u _ L' => u = .tuple #[.int .u32 ((nonceN k m : Nat) : Int), .int .i64 0] ∧ L = L') := by
 refine zS (N := 28) (args := [.int .u32 (k : Int), vm]) Tryz.func94 ?_;refine qg (qg (qd ?_));refine qg (qg (qc (sign_check af) ?_));rintro v10 h2 L_ le1 ⟨rfl, rfl⟩;replace hg := hg.mono le1; replace hm := hm.mono le1;rw [if_pos hk];refine qg (qd ?_);refine qg (qg (neqB (fun c12 => ?_) (fun c12 => ?_)))
 ·
  omega
 ·
  refine qd ?_;refine qg (qg (qg (qB sl_239 z_53 rfl ag ah aj ?_)));intro v17 h4 le3 hv17;replace hg := hg.mono le3; replace hm := hm.mono le3;refine qg (qc (sign_hash (kind := 110) (l := [k]) hg ah hm (by exact hv17) (all1 af) am hms) ?_);rintro v18 h6 L_ le5 ⟨rfl, rfl⟩;rw [be4s_one];have hn8 := numD_lt8 (sha (UInt8.ofNat 110 :: (be4 k ++ m)));have hmod : numD (sha (UInt8.ofNat 110 :: (be4 k ++ m))) 8 % 500000002 < 500000002 := Nat.mod_lt _ ah;refine qg (qg (qg (qg (qg (qd ?_)))));refine qg (qg (neqB (fun c22 => ?_) (fun c22 => ?_)))
  ·
   omega
  ·
   refine qd ?_;refine qg (qg (rem_nat (b := 500000002) ah ?_));refine qg (conv_u32n it_52_53 af ?_);refine qg (add_u32n (b := 1) af ?_);refine qg (qg (qd ?_));refine DoRet.r2 (.tmp rfl) (.tmp rfl) zg zl ?_;exact ⟨rfl, rfl⟩
theorem sign_challenge {c : World} {h : GH} {L : Own} {r y : Nat} {vm : Value} {m : List UInt8} (hg : GK h) (hr : r < 4294967296) (hy : y < 4294967296) (hm : RBytes h vm m) (hms : m.length ≤ 9000):
 Fun Tryz.prog c 95 #[.int .u32 (r : Int), .int .u32 (y : Int), vm] h L (fun u _ L' => u = .tuple #[.int .u32 ((chalN r y m : Nat) : Int), .int .i64 0] ∧ L = L') := by
 refine zS (N := 24) (args := [.int .u32 (r : Int), .int .u32 (y : Int), vm]) Tryz.func95 ?_;refine qg (qg (qd ?_));refine qg (qg (qg (qg (buildSliceN (ls := [[_], [_]]) sl_239 zc_53 (qy ac (qy ac Parts.nil)) rfl rfl (all2 rfl rfl) (all2 ad ad) ah ah ?_))));intro v14 h2 le1 hv14;replace hg := hg.mono le1; replace hm := hm.mono le1;refine qg (qc (sign_hash (kind := 99) (l := [r, y]) hg ah hm (by exact hv14) (all2 hr hy) am hms) ?_);rintro v15 h4 L_ le3 ⟨rfl, rfl⟩;rw [be4s_two];have hn8 := numD_lt8 (sha (UInt8.ofNat 99 :: (be4 r ++ (be4 y ++ m))));have hmod : numD (sha (UInt8.ofNat 99 :: (be4 r ++ (be4 y ++ m)))) 8 % 500000003 < 500000003 := Nat.mod_lt _ ah;refine qg (qg (qg (qg (qg (qd ?_)))));refine qg (qg (neqB (fun c19 => ?_) (fun c19 => ?_)))
 ·
  omega
 ·
  refine qd ?_;refine qg (qg (rem_nat (b := 500000003) ah ?_));refine qg (conv_u32n it_52_53 af ?_);refine qg (qg (qd ?_));refine DoRet.r2 (.tmp rfl) (.tmp rfl) zg zl ?_;exact ⟨rfl, rfl⟩
theorem sign_verify {c : World} {h : GH} {L : Own} {y e s : Nat} {v0 : Value} {m : List UInt8} (hg : GK h) (hy : isG y = true) (hok : sgnOk y m e s = true) (hb0 : RBytes h v0 m) (hsm : m.length ≤ 9000):
 Fun Tryz.prog c 98 #[.int .u32 (y : Int), v0, .agg [.int .u32 (e : Int), .int .u32 (s : Int)].toArray] h L (fun u _ L' => u = .int .i64 0 ∧ L = L') := by
 have hyl := isG_lt hy;have hok2 := hok;simp only [sgnOk, Bool.and_eq_true, decide_eq_true_eq] at hok2;obtain ⟨⟨hel, hsl⟩, hch⟩ := hok2;have hgi := isG_pow (e := 500000003 - e) hy;have hgb := isG_base s;have hp2 := powM_lt 4 s;have hp3 := powM_lt y (500000003 - e);refine zS (N := 58) (args := [.int .u32 (y : Int), v0, .agg [.int .u32 (e : Int), .int .u32 (s : Int)].toArray]) Tryz.func98 ?_;refine qg (box_at rfl ?_);intro p5 h2 le1 hp5;replace hg := hg.mono le1; replace hb0 := hb0.mono le1;refine qg (qd ?_);refine qg (qg (qc (group_is (a := y) af) ?_));rintro v14 h4 L_ le3 ⟨rfl, rfl⟩;replace hg := hg.mono le3; replace hb0 := hb0.mono le3; replace hp5 := hp5.mono le3;rw [hy];refine qg (not_tt ?_);refine qd ?_;refine qg (qg (qm sl_109 aa ?_));refine qg (gtrB (fun c18 => ?_) (fun c18 => ?_))
 ·
  omega
 ·
  refine qd ?_;refine qg (qf fi_59_0 aa ?_);intro p19 hp19;refine qg (ql sc_53 aa ?_);refine qg (qf fi_59_1 aa ?_);intro p21 hp21;refine qg (ql sc_53 aa ?_);refine qg (max_int ?_);refine qg (geqB (fun c24 => ?_) (fun c24 => ?_))
  ·
   omega
  ·
   refine qd ?_;refine qg (qg (qf fi_59_0 aa ?_));intro p27 hp27;refine qg (ql sc_53 aa ?_);refine qg (conv_u64 it_53_52 af ?_);refine qg (sub_u64 (a := 500000003) af af ?_);refine qg (qc (group_Pow (a := y) (n := 500000003 - e) af af) ?_);rintro v31 h6 L_ le5 ⟨rfl, rfl⟩;replace hg := hg.mono le5; replace hb0 := hb0.mono le5; replace hp5 := hp5.mono le5;rw [if_pos hy];refine qg (qg (qg (qg (qg (qd ?_)))));refine qg (qf fi_59_1 aa ?_);intro p35 hp35;refine qg (ql sc_53 aa ?_);refine qg (conv_u64 it_53_52 af ?_);refine qg (qc (group_base (n := s) af) ?_);rintro v38 h8 L_ le7 ⟨rfl, rfl⟩;replace hg := hg.mono le7; replace hb0 := hb0.mono le7; replace hp5 := hp5.mono le7;refine qg (qg (qc (group_Mul (a := powM 4 s) (b := powM y (500000003 - e)) af af) ?_));rintro v40 h10 L_ le9 ⟨rfl, rfl⟩;replace hg := hg.mono le9; replace hb0 := hb0.mono le9; replace hp5 := hp5.mono le9;rw [hgi, hgb];rw [if_pos (show (true && true) = true from rfl)];refine qg (qg (qg (qg (qg (qd ?_)))));refine qg (qg (qg (qg (qc (sign_challenge (r := powM 4 s * powM y (500000003 - e) % 1000000007) (y := y) hg (Nat.lt_trans (Nat.mod_lt _ ah) ah) af hb0 hsm) ?_))));rintro v47 h12 L_ le11 ⟨rfl, rfl⟩;replace hp5 := hp5.mono le11;rw [hch];refine qg (qg (qg (qg (qg (qd ?_)))));refine qg (qg (neqB (fun c51 => ?_) (fun c51 => ?_)))
   ·
    omega
   ·
    refine qg (kG rfl rfl ?_);refine kG rfl rfl ?_;refine qf fi_59_0 aa ?_;intro p54 hp54;refine kG rfl rfl ?_;refine ql sc_53 aa ?_;refine kG rfl rfl ?_;refine neqB (fun c56 => ?_) (fun c56 => ?_)
    ·
     omega
    ·
     refine qg (qd ?_);refine qg (qd ?_);refine ze rfl ?_;exact ⟨rfl, rfl⟩
end Go.Brd
namespace Go.Brd
open Go Go.Brd Go.Proofs
set_option linter.unusedVariables false
theorem pl_f100 : plain Tryz.prog 100 = true := by kernel_rfl
theorem pl_f54 : plain Tryz.prog 54 = true := by kernel_rfl
theorem pl_f98 : plain Tryz.prog 98 = true := by kernel_rfl
theorem si_22 : sizeIs Tryz.prog 22 1 = true := by kernel_rfl
theorem si_61 : sizeIs Tryz.prog 61 11 = true := by kernel_rfl
theorem zc_61 : zeroC Tryz.prog 61 = some ([.int .u32 0, .slice none 0 0, .int .u64 0, .int .u8 0, .string ⟨#[]⟩, .int .u8 0, .int .i64 0, .int .u64 0, .string ⟨#[]⟩, .int .u32 0, .int .u32 0]) := by kernel_rfl
theorem nonceN_pos (k : Nat) (m : List UInt8) : 1 ≤ nonceN k m := by unfold nonceN; omega
def signed (k : Nat) (o : Op) : Op := { o with author := powM 4 k, e := sigE k (msgB { o with author := powM 4 k }), s := sigS k (msgB { o with author := powM 4 k }) }
theorem sigE_lt (k : Nat) (m : List UInt8) : sigE k m < 500000003 := chalN_lt _ _ _
theorem sigS_lt (k : Nat) (m : List UInt8) : sigS k m < 500000003 := Nat.mod_lt _ ah
theorem encB_len {o : Op} (ho : OpOk o) (h32 : ∀ x ∈ o.preds, x.length = 32) : (encB o).length ≤ 320 := by
 have h1 := msgB_len ho.unsig h32;have h2 := numB_len o.e; have h3 := numB_len o.s
 unfold encB; simp only [List.length_append]; omega
theorem sign_sign {c : World} {h : GH} {L : Own} {k : Nat} {vm : Value} {m : List UInt8} (hg : GK h) (hk : 1 ≤ k ∧ k < 500000003) (hm : RBytes h vm m) (hms : m.length ≤ 9000):
 Fun Tryz.prog c 54 #[.int .u32 (k : Int), vm] h L (fun u _ L' => u = .tuple #[.agg [.int .u32 ((sigE k m : Nat) : Int), .int .u32 ((sigS k m : Nat) : Int)].toArray, .int .i64 0] ∧ L = L') := by
 have hn := nonceN_lt k m;have he := sigE_lt k m;have hp := powM_lt 4 k;have hp2 := powM_lt 4 (nonceN k m);have hx : sigE k m * k % 500000003 < 500000003 := Nat.mod_lt _ ah;refine zS (N := 55) (args := [.int .u32 (k : Int), vm]) Tryz.func54 ?_;refine qg (qa zc_59 ?_);intro b4;refine qg (qd ?_);refine qg (qg (qg (qc (sign_nonce hg hk hm hms) ?_)));rintro v19 h2 L_ le1 ⟨rfl, rfl⟩;replace hg := hg.mono le1; replace hm := hm.mono le1;refine qg (qg (qg (qg (qg (qd ?_)))));refine qg (qg (neqB (fun c23 => ?_) (fun c23 => ?_)))
 ·
  omega
 ·
  refine qd ?_;refine qg (qg (qc (sign_public (n := k) af) ?_));rintro v28 h4 L_ le3 ⟨rfl, rfl⟩;replace hg := hg.mono le3; replace hm := hm.mono le3;rw [if_pos hk];refine qg (qg (qg (qg (qg (qd ?_)))));refine qg (qg (conv_u64 it_53_52 af ?_));refine qg (qc (group_base (n := nonceN k m) af) ?_);rintro v34 h6 L_ le5 ⟨rfl, rfl⟩;replace hg := hg.mono le5; replace hm := hm.mono le5;refine qg (qg (qg (qc (sign_challenge (r := powM 4 (nonceN k m)) (y := powM 4 k) hg af af hm hms) ?_)));rintro v37 h8 L_ le7 ⟨rfl, rfl⟩;rw [show chalN (powM 4 (nonceN k m)) (powM 4 k) m = sigE k m from rfl];refine qg (qg (qg (qg (qg (qd ?_)))));refine qg (qg (qg (qc (group_times (a := sigE k m) (b := k) af af) ?_)));rintro v43 h10 L_ le9 ⟨rfl, rfl⟩;rw [if_pos ⟨he, hk.2⟩];refine qg (qg (qg (qg (qg (qd ?_)))));refine qg (qg (qg (qc (group_plus (a := nonceN k m) (b := sigE k m * k % 500000003) af af) ?_)));rintro v49 h12 L_ le11 ⟨rfl, rfl⟩;rw [if_pos ⟨hn, hx⟩];rw [show (nonceN k m + sigE k m * k % 500000003) % 500000003 = sigS k m from rfl];refine qg (qg (qg (qg (qg (qd ?_)))));refine qg (qg (qg (build_struct zc_59 pl_59 (qy ac (qy ac Parts.nil)) rfl ?_)));refine qg (kB si_59 ac ai ad kR ab rfl kR.symm ?_);refine qg (qd ?_);refine DoRet.r2 (.cell rfl (qx ag_59 kH ab an rfl)) (.tmp rfl) (qh (zu kS)) zl ?_;exact ⟨rfl, rfl⟩
theorem op_id {c : World} {h : GH} {L : Own} {o : Op} {pv : Value} (hg : GK h) (ho : OpOk o) (hw : OpWF o) (hp : RIds h pv o.preds):
 Fun Tryz.prog c 56 #[opV o pv] h L (fun u _ L' => u = .tuple #[idV (idOf o), .int .i64 0] ∧ L = L') := by
 have hel := encB_len ho hp.len32;refine zS (N := 19) (args := [.agg (opC2 o pv).toArray]) Tryz.func56 ?_;refine qg (box_at rfl ?_);intro p1 h2 le1 hp1;replace hg := hg.mono le1; replace hp := hp.mono le1;refine qg (qa zc_74 ?_);intro b2;refine qg (qd ?_);refine qg (qX ag_61 aa ag ?_);refine qg (qc (op_encode ho hw hp) ?_);rintro v8 h4 L_ le3 ⟨x8, N8, rfl, rfl, hv8⟩;replace hg := hg.mono le3;refine qg (qg (qg (qg (qg (qd ?_)))));refine qg (qg (neqB (fun c12 => ?_) (fun c12 => ?_)))
 ·
  omega
 ·
  refine qd ?_;refine qg (qg (DoCall.freeze pl_f100 hv8 al kR ?_));intro h5 le6 hv8;replace hg := hg.mono le6;refine qc (dig_sum hg hv8 af) ?_;rintro v16 h8 L_ le7 ⟨rfl, rfl⟩;have hcl : (idC (idOf o)).length = 32 := by rw [idC_length, idOf_len]
  rw [show sha (encB o) = idOf o from rfl]
  generalize idOf o = w at hcl ⊢
  refine qg (qg (qg (kB (l' := idC w) si_74 ac hcl (idC_one _) kR ab (over_all (by rw [hcl, List.length_replicate])) kR.symm ?_)));refine qg (qd ?_);refine DoRet.r2 (.cell rfl (qx (r := idC w) ag_74 kH (by rw [hcl]; decide) (by rw [List.drop_zero, List.take_of_length_le (by rw [hcl]; decide)]) rfl)) (.tmp rfl) (qh (zu kS)) zl ?_;exact ⟨rfl, rfl⟩
theorem op_verify {c : World} {h : GH} {L : Own} {o : Op} {pv : Value} (hg : GK h) (ho : OpOk o) (hs : sgn o = true) (hw : OpWF o) (hp : RIds h pv o.preds):
 Fun Tryz.prog c 55 #[opV o pv] h L (fun u _ L' => u = .int .i64 0 ∧ L = L') := by
 have hml := msgB_len ho.unsig hp.len32;refine zS (N := 22) (args := [.agg (opC2 o pv).toArray]) Tryz.func55 ?_;refine qg (box_at rfl ?_);intro p1 h2 le1 hp1;replace hg := hg.mono le1; replace hp := hp.mono le1;refine qg (qd ?_);refine qg (qX ag_61 aa ag ?_);refine qg (qc (op_check ho hw hp) ?_);rintro v7 h4 L_ le3 ⟨rfl, rfl⟩;replace hg := hg.mono le3; replace hp := hp.mono le3; replace hp1 := hp1.mono le3;refine qg (qd ?_);refine qg (qg (neqB (fun c9 => ?_) (fun c9 => ?_)))
 ·
  omega
 ·
  refine qd ?_;refine qg (qX ag_61 aa ag ?_);refine qg (qc (op_message ho.unsig hw hp) ?_);rintro v13 h6 L_ le5 ⟨x13, N13, rfl, rfl, hv13⟩;replace hg := hg.mono le5; replace hp1 := hp1.mono le5;refine qg (qg (qg (qg (qg (qd ?_)))));refine qg (qf fi_61_0 aa ?_);intro p16 hp16;refine qg (ql sc_53 aa ?_);refine qg (qg (qf fi_61_4 aa ?_));intro p19 hp19;refine qg (qX ag_59 aa ag ?_);refine qg (DoCall.freeze pl_f98 hv13 al kR ?_);intro h7 le8 hv13;replace hg := hg.mono le8;refine qc (sign_verify (y := o.author) (e := o.e) (s := o.s) hg ho.author hs hv13 af) ?_;rintro v21 h10 L_ le9 ⟨rfl, rfl⟩;refine qg (qd ?_);refine ze rfl ?_;exact ⟨rfl, rfl⟩
theorem op_sign {c : World} {h : GH} {L : Own} {k : Nat} {o : Op} {pv : Value} (hg : GK h) (hk : 1 ≤ k ∧ k < 500000003) (ho : OpOk (unsig { o with author := powM 4 k })) (hw : OpWF o) (hp : RIds h pv o.preds):
 Fun Tryz.prog c 18 #[.int .u32 (k : Int), opV o pv] h L (fun u h' L' => (∃ pv', u = .tuple #[opV (signed k o) pv', .int .i64 0] ∧ RIds h' pv' o.preds) ∧ L = L') := by
 have hpk := powM_lt 4 k;have hml := msgB_len ho hp.len32;have hpl : o.preds.length ≤ 4 := ho.preds;have hw2 : OpWF { o with author := powM 4 k } := ⟨Nat.lt_trans hpk ah, hw.stamp, hw.act, hw.e, hw.s⟩;refine zS (N := 41) (args := [.int .u32 (k : Int), .agg (opC2 o pv).toArray]) Tryz.func18 ?_;refine qg (box_own rfl ?_);intro b3;refine qg (qa zc_61 ?_);intro b4;refine qg (qd ?_);refine qg (qg (qc (sign_public (n := k) af) ?_));rintro v11 h2 L_ le1 ⟨rfl, rfl⟩;replace hg := hg.mono le1; replace hp := hp.mono le1;rw [if_pos hk];refine qg (qg (qg (qg (qg (qd ?_)))));refine qg (qg (neqB (fun c15 => ?_) (fun c15 => ?_)))
 ·
  omega
 ·
  refine qd ?_;refine qg (qg (qw fi_61_1 ?_));refine qg (qO (v := pv) sc_22 (kT kH) rfl ?_);refine qg (qc (Fun.frozen al (clone_id hp al)) ?_);rintro v21 h4 L_ le3 ⟨rfl, hv21⟩;replace hg := hg.mono le3;refine qg (qw fi_61_0 ?_);refine qg (kB si_53 ac ai ad ((zc kR).trans zw) ab rfl ((zc kR).trans zw).symm ?_);refine qg (qw fi_61_1 ?_);refine qg (kB si_22 ac ai ad ((zc kR).trans zw) ab rfl ((zc kR).trans zw).symm ?_);refine qd ?_;refine qg (qx (r := opC2 { o with author := powM 4 k } v21) ag_61 (kT kH) ab rfl ?_);refine qg (qc (op_message (o := { o with author := powM 4 k }) ho hw2 hv21) ?_);rintro v26 h6 L_ le5 ⟨x26, N26, rfl, rfl, hv26⟩;replace hg := hg.mono le5; replace hv21 := hv21.mono le5;refine qg (qg (qg (qg (qg (qd ?_)))));refine qg (qg (neqB (fun c30 => ?_) (fun c30 => ?_)))
  ·
   omega
  ·
   refine qd ?_;refine qg (qg (qg (DoCall.freeze pl_f54 hv26 al kR ?_)));intro h7 le8 hv26;replace hg := hg.mono le8; replace hv21 := hv21.mono le8;refine qc (sign_sign hg hk hv26 af) ?_;rintro v36 h10 L_ le9 ⟨rfl, rfl⟩;replace hv21 := hv21.mono le9;refine qg (qg (qg (qg (qw fi_61_4 ?_))));refine qg (kB si_59 ac ai ad ((zc kR).trans zw) ab rfl ((zc kR).trans zw).symm ?_);refine qd ?_;refine qg (qx (r := opC2 (signed k o) v21) ag_61 (kT kH) ab rfl ?_);refine qg (kB si_61 ac ai ad kR ab rfl kR.symm ?_);refine qg (qd ?_);refine DoRet.r2 (.cell rfl (qx (r := opC2 (signed k o) v21) ag_61 kH ab rfl rfl)) (.tmp rfl) (qh (zu (zu kS))) zl ?_;exact ⟨⟨v21, rfl, hv21⟩, rfl⟩
end Go.Brd
namespace Go.Brd
open Go Go.Brd Go.Proofs
set_option linter.unusedVariables false
theorem sl_38 : sliceOf Tryz.prog 38 102 38 = true := by kernel_rfl
theorem z_102 : zeroIs Tryz.prog 102 38 = true := by kernel_rfl
theorem over_split {a y c r : List Value} {off : Nat} (hl : a.length = off) (hy : y.length = r.length) : over (a ++ (y ++ c)) off r = a ++ (r ++ c) := by
 subst hl; exact over_append a y r c hy
theorem ins1 {A zz rest x : List Value} {off : Nat} (hl : A.length = off) (hx : x.length ≤ zz.length) : over (A ++ (zz ++ rest)) off x = A ++ (x ++ (zz.drop x.length ++ rest)) := by
 have : zz ++ rest = zz.take x.length ++ (zz.drop x.length ++ rest) := by rw [← List.append_assoc, List.take_append_drop]
 rw [this]; exact over_split hl ar
theorem ins2 {A x w D rest : List Value} {off : Nat} (hl : A.length + x.length = off) (hw : w.length = D.length) : over (A ++ (x ++ (w ++ rest))) off D = A ++ (x ++ (D ++ rest)) := by
 have e := over_split (a := A ++ x) (y := w) (c := rest) (r := D) (off := off) (by rw [List.length_append]; exact hl) hw;rw [List.append_assoc, List.append_assoc] at e; exact e
theorem ins3 {F D rest : List Value} {off sz : Nat} (hl : F.length + sz = off) (hr : sz ≤ rest.length) : over (F ++ (D ++ rest)) off D = F ++ ((D ++ rest).take sz ++ (D ++ rest.drop sz)) := by
 have h1 : F ++ (D ++ rest) = (F ++ (D ++ rest).take sz) ++ (((D ++ rest).drop sz).take D.length ++ ((D ++ rest).drop sz).drop D.length) := by
  rw [List.take_append_drop, List.append_assoc, List.take_append_drop]
 have h2 : ((D ++ rest).drop sz).drop D.length = rest.drop sz := by
  rw [List.drop_drop, Nat.add_comm, ← List.drop_drop, List.drop_left]
 rw [h1, over_split (by rw [List.length_append, List.length_take, List.length_append]; omega) (by rw [List.length_take, List.length_drop, List.length_append]; omega), h2, List.append_assoc]
theorem part_D {F D rest : List Value} {a b : Nat} (ha : F.length = a) (hb : D.length = b) : ((F ++ (D ++ rest)).drop a).take b = D := by
 subst ha; subst hb; rw [List.drop_left, List.take_left]
theorem ins_row {E sz b cap n i : Nat} {ls : List (List Value)} {x rest F D : List Value} (hs : ∀ l ∈ ls, l.length = sz) (h1 : ∀ l ∈ ls, l.all oneCell = true) (hx : x.length = sz) (hx1 : x.all oneCell = true) (hF : (ls.take i).flatten = F) (hD : (ls.drop i).flatten = D) (hi : i ≤ ls.length)
 (hn : ls.length + 1 = n) (hc : cap * sz = n * sz + rest.length) (hle : n ≤ cap) (hc2 : cap < 2 ^ 63) : OS E sz (.slice (some ⟨b, 0, none⟩) n cap) (ls.take i ++ x :: ls.drop i) [(b, .cells (F ++ (x ++ (D ++ rest))).toArray E (0, 0))] := by
 have e : Obj.cells (F ++ (x ++ (D ++ rest))).toArray E (0, 0) = rowO E (ls.take i ++ x :: ls.drop i) rest := by
  unfold rowO; rw [List.flatten_append, List.flatten_cons, hF, hD]; simp only [List.append_assoc]
 rw [e];refine OS.ofRow ?_ ?_ ar hc hle hc2
 · intro l hl
   rcases List.mem_append.1 hl with hl | hl
   · exact hs l (List.mem_of_mem_take hl)
   · rcases List.mem_cons.1 hl with rfl | hl
     · exact hx
     · exact hs l (List.mem_of_mem_drop hl)
 · intro l hl
   rcases List.mem_append.1 hl with hl | hl
   · exact h1 l (List.mem_of_mem_take hl)
   · rcases List.mem_cons.1 hl with rfl | hl
     · exact hx1
     · exact h1 l (List.mem_of_mem_drop hl)
theorem find_none_112 : Extern.findNext Tryz.f112 = none := by kernel_rfl
theorem find_ov_112 : Extern.find Tryz.f112 = some (Extern.SlicesOverlaps.overlaps #[22, 22] Tryz.f112.resultTypes) := by kernel_rfl
theorem insert_id {c : World} {h : GH} {L : Own} {v u : Value} {ls : List (List Value)} {x : List Value} {i : Nat} {N : Own} (hv : OS 74 32 v ls N) (hu : Sl h u 32 [x]) (hi : i ≤ ls.length) (hsm : ls.length ≤ 1000):
 Fun Tryz.prog c 73 #[v, .int .i64 (i : Int), u] h (N ++ L) (fun z _ L' => ∃ N', L' = N' ++ L ∧ OS 74 32 z (ls.take i ++ x :: ls.drop i) N') := by
 have hxl : x.length = 32 := hu.sizes x am;have hx1 : x.all oneCell = true := hu.ones x am;have hx0 : ([x] : List (List Value)).length = 1 := rfl;refine zS (N := 95) (args := [v, .int .i64 (i : Int), u]) Tryz.func73 ?_;refine qg (qd ?_);refine qg (qg (qg (slice_os_any sl_22 hv rfl hi ?_)));intro v12;refine qd ?_;refine qg (qg (len_sl sl_22 aa ?_));refine qg (qd ?_);refine qg (qg (eqlB (fun c16 => ?_) (fun c16 => ?_)))
 ·
  rw [hx0] at c16; omega
 ·
  refine qd ?_;refine qg (qg (len_os sl_22 aa ?_));refine qg (qd ?_);refine qg (qg (qg (eqlB (fun c22 => ?_) (fun c22 => ?_))))
  ·
   refine qd ?_;refine qg (qg (qg (qp sl_22 sl_22 z_74 aa aa kR (by first | omega | (simp [*]; done) | (simp [*]; omega)) ?_)));intro v25 N25 hv25;refine ⟨_, kR.symm, ?_⟩;refine qg (qd ?_);refine DoRet.r1 (.tmp rfl) (qh (List.Sublist.append_left kS _)) zl ?_;have hie : i = ls.length := by omega
   subst hie;refine ⟨N25, rfl, ?_⟩;rw [List.take_length, List.drop_length]; exact hv25
  ·
   have hlt : i < ls.length := by omega
   have hls := hv.sizes;have hl1 := hv.ones;obtain ⟨b, rest, cap, rfl, rfl, hc, hle, hc2⟩ := hv.toRow af;obtain ⟨F, hF⟩ : ∃ F, (ls.take i).flatten = F := ⟨_, rfl⟩;obtain ⟨D, hD⟩ : ∃ D, (ls.drop i).flatten = D := ⟨_, rfl⟩;have hFl : F.length = i * 32 := by rw [← hF, flatten_length (sz := 32) (fun l hl => hls l (List.mem_of_mem_take hl)), List.length_take, Nat.min_eq_left hi]
   have hDl : D.length = (ls.length - i) * 32 := by rw [← hD, flatten_length (sz := 32) (fun l hl => hls l (List.mem_of_mem_drop hl)), List.length_drop]
   have hD1 : D.all oneCell = true := by
    rw [← hD, List.all_eq_true]; intro z hz;obtain ⟨l, hl, hzl⟩ := List.mem_flatten.1 hz;exact List.all_eq_true.1 (hl1 l (List.mem_of_mem_drop hl)) z hzl
   have ho : rowO 74 ls rest = .cells (F ++ (D ++ rest)).toArray 74 (0, 0) := by
    unfold rowO; rw [← hF, ← hD, ← List.append_assoc, ← List.flatten_append, List.take_append_drop]
   rw [ho];rw [hx0] at *;have hx9 : ([x] : List (List Value)).length = 1 := rfl;have hp1 := part_D (rest := rest) hFl hDl;refine qd ?_;refine qg (qg (qg (qA ak ?_)));refine qg (qg (cap_c sl_22 ?_));refine qg (gtrB (fun c31 => ?_) (fun c31 => ?_))
   ·
    refine qd ?_;refine qg (qg (qg (sliceB_hi (hi := i) sl_22 rfl af ?_)));refine qg (qg (qg (qA ak ?_)));refine qg (qg (sub_i64 ak ?_));rw [show ((ls.length : Nat) : Int) + ((1 : Nat) : Int) - (i : Int) = ((ls.length + 1 - i : Nat) : Int) by omega];refine qg (append_grow (l := F ++ (D ++ rest)) (E := 74) (b := b) sl_22 ux_i z_74 kH (by simp only [List.length_append]; omega) af af af ?_);intro b40 nc zz rest2 hzz hnc hnc1 hnc2;have etk : (F ++ (D ++ rest)).take (i * 32) = F := by rw [← hFl, List.take_left]
    rw [etk];have hz1 := ins1 (A := F) (zz := zz) (rest := rest2) (x := x) hFl (by rw [hxl, hzz]; omega);rw [hxl] at hz1;have hz2 := ins2 (A := F) (x := x) (w := zz.drop 32) (D := D) (rest := rest2) (off := (i + 1) * 32) (by rw [hFl, hxl]; omega) (by rw [List.length_drop, hzz, hDl]; omega);refine qg (qd ?_);refine qg (qg (qg (sliceB_lo (lo := i) sl_22 rfl af ?_)));rw [if_neg (show ¬ nc = i by omega)];refine qg (qg (copy_sl (l := F ++ (zz ++ rest2)) (l' := F ++ (x ++ (zz.drop 32 ++ rest2))) sl_22 hu (by rw [hx9]; omega) kR (by simp only [List.length_append, hx9]; omega) (by rw [Nat.zero_add]; simpa using hz1) kR.symm ?_));refine qd ?_;refine qD mixed [] [0, 1, 2, 3, 4, 5, 6, 7, 8] [] ae sub_nil ?_;refine qr rfl rfl rfl (qr rfl rfl rfl (qr rfl rfl rfl (qr rfl rfl rfl (qA ak ?_))));refine qr rfl rfl rfl (sliceB_lo (lo := i + 1) sl_22 af af ?_);rw [if_neg (show ¬ nc = i + 1 by omega)];refine qr rfl rfl rfl (qr rfl rfl rfl (qr rfl rfl rfl (sliceB_lo (lo := i) sl_22 rfl af ?_)));rw [if_neg (show ¬ cap = i by omega)];refine qj rfl rfl rfl ?_;refine copy_other (l := F ++ (x ++ (zz.drop 32 ++ rest2))) (l' := F ++ (x ++ (D ++ rest2))) (n := ls.length - i) (b2 := b) (l2 := F ++ (D ++ rest)) sl_22 (show min _ _ = _ by omega) kR (by first | exact List.Mem.head _ | exact kT kH) (by simp only [List.length_append, List.length_drop]; omega) (by simp only [List.length_append]; omega) (by rw [Nat.zero_add, hp1]; exact hD1) (by rw [Nat.zero_add, Nat.zero_add, hp1]; exact hz2) kR.symm ?_;refine ⟨am, ?_⟩;refine qe zf ?_;refine qg (qg (qd ?_));refine DoRet.r1 (.tmp rfl) (qh (zv (zu kS))) zl ?_;refine ⟨[(b40, _)], rfl, ?_⟩;rw [show i + (ls.length + 1 - i) = ls.length + 1 by omega] at *;exact ins_row hls hl1 hxl hx1 hF hD hi rfl hnc hnc1 hnc2
   ·
    refine qd ?_;refine qg (qg (qg (qg (qA ak ?_))));refine qg ?_;rw [show ((ls.length : Nat) : Int) + ((1 : Nat) : Int) = ((ls.length + 1 : Nat) : Int) by omega];refine sliceB_hi (hi := ls.length + 1) sl_22 rfl af ?_;refine qg (qd ?_);refine qg (qg (qg (qg (qg (qA ak ?_)))));refine qg (sliceB_lo (lo := i + 1) sl_22 af af ?_);rw [if_neg (show ¬ cap = i + 1 by omega)];refine qg (DoCall.ext (overlaps_ext Tryz.func112 rfl rfl find_none_112 find_ov_112 rfl sl_22 hu kH (by simp only [List.length_append]; omega)) ?_);rintro v67 h67 L_ le67 ⟨rfl, rfl⟩;have hz3 := ins3 (F := F) (D := D) (rest := rest) (off := (i + 1) * 32) (sz := 32) af af;have hz4 := over_split (a := F) (y := (D ++ rest).take 32) (c := D ++ rest.drop 32) (r := x) hFl (by rw [List.length_take, List.length_append]; omega);replace hu := hu.mono le67;refine qg (not_ff ?_);refine qd ?_;refine qD mixed [] [0, 1, 2, 3, 4, 5, 6, 7, 8] [] ae sub_nil ?_;refine qr rfl rfl rfl (qr rfl rfl rfl (qr rfl rfl rfl (qr rfl rfl rfl (qA ak ?_))));refine qr rfl rfl rfl (sliceB_lo (lo := i + 1) sl_22 af af ?_);rw [if_neg (show ¬ cap = i + 1 by omega)];refine qr rfl rfl rfl (qr rfl rfl rfl (qr rfl rfl rfl (sliceB_lo (lo := i) sl_22 rfl af ?_)));rw [if_neg (show ¬ cap = i by omega)];refine qj rfl rfl rfl ?_;refine copy_same (l := F ++ (D ++ rest)) (l' := F ++ ((D ++ rest).take 32 ++ (D ++ rest.drop 32))) (n := ls.length - i) sl_22 (show min _ _ = _ by omega) kR (by simp only [List.length_append]; omega) (by simp only [List.length_append]; omega) (by rw [Nat.zero_add, hp1]; exact hD1) (by rw [Nat.zero_add, Nat.zero_add, hp1]; exact hz3) kR.symm ?_;refine ⟨am, ?_⟩;refine qe zf ?_;refine qg (qg (qg (sliceB_lo (lo := i) sl_22 rfl af ?_)));rw [if_neg (show ¬ cap = i by omega)];refine qg (qg (copy_sl (l := F ++ ((D ++ rest).take 32 ++ (D ++ rest.drop 32))) (l' := F ++ (x ++ (D ++ rest.drop 32))) sl_22 hu (by rw [hx9]; omega) kR (by simp only [List.length_append, List.length_take, List.length_drop, hx9]; omega) (by rw [Nat.zero_add]; simpa using hz4) kR.symm ?_));refine qd ?_;refine qg (qg (qd ?_));refine DoRet.r1 (.tmp rfl) (qh (zv kS)) zl ?_;refine ⟨[(b, _)], rfl, ?_⟩;exact ins_row hls hl1 hxl hx1 hF hD hi rfl (by rw [List.length_drop]; omega) af hc2
theorem find_none_178 : Extern.findNext Tryz.f178 = none := by kernel_rfl
theorem find_ov_178 : Extern.find Tryz.f178 = some (Extern.SlicesOverlaps.overlaps #[38, 38] Tryz.f178.resultTypes) := by kernel_rfl
theorem insert_reg {c : World} {h : GH} {L : Own} {v u : Value} {ls : List (List Value)} {x : List Value} {i : Nat} {N : Own} (hv : OS 102 38 v ls N) (hu : Sl h u 38 [x]) (hi : i ≤ ls.length) (hsm : ls.length ≤ 1000):
 Fun Tryz.prog c 119 #[v, .int .i64 (i : Int), u] h (N ++ L) (fun z _ L' => ∃ N', L' = N' ++ L ∧ OS 102 38 z (ls.take i ++ x :: ls.drop i) N') := by
 have hxl : x.length = 38 := hu.sizes x am;have hx1 : x.all oneCell = true := hu.ones x am;have hx0 : ([x] : List (List Value)).length = 1 := rfl;refine zS (N := 95) (args := [v, .int .i64 (i : Int), u]) Tryz.func119 ?_;refine qg (qd ?_);refine qg (qg (qg (slice_os_any sl_38 hv rfl hi ?_)));intro v12;refine qd ?_;refine qg (qg (len_sl sl_38 aa ?_));refine qg (qd ?_);refine qg (qg (eqlB (fun c16 => ?_) (fun c16 => ?_)))
 ·
  rw [hx0] at c16; omega
 ·
  refine qd ?_;refine qg (qg (len_os sl_38 aa ?_));refine qg (qd ?_);refine qg (qg (qg (eqlB (fun c22 => ?_) (fun c22 => ?_))))
  ·
   refine qd ?_;refine qg (qg (qg (qp sl_38 sl_38 z_102 aa aa kR (by first | omega | (simp [*]; done) | (simp [*]; omega)) ?_)));intro v25 N25 hv25;refine ⟨_, kR.symm, ?_⟩;refine qg (qd ?_);refine DoRet.r1 (.tmp rfl) (qh (List.Sublist.append_left kS _)) zl ?_;have hie : i = ls.length := by omega
   subst hie;refine ⟨N25, rfl, ?_⟩;rw [List.take_length, List.drop_length]; exact hv25
  ·
   have hlt : i < ls.length := by omega
   have hls := hv.sizes;have hl1 := hv.ones;obtain ⟨b, rest, cap, rfl, rfl, hc, hle, hc2⟩ := hv.toRow af;obtain ⟨F, hF⟩ : ∃ F, (ls.take i).flatten = F := ⟨_, rfl⟩;obtain ⟨D, hD⟩ : ∃ D, (ls.drop i).flatten = D := ⟨_, rfl⟩;have hFl : F.length = i * 38 := by rw [← hF, flatten_length (sz := 38) (fun l hl => hls l (List.mem_of_mem_take hl)), List.length_take, Nat.min_eq_left hi]
   have hDl : D.length = (ls.length - i) * 38 := by rw [← hD, flatten_length (sz := 38) (fun l hl => hls l (List.mem_of_mem_drop hl)), List.length_drop]
   have hD1 : D.all oneCell = true := by
    rw [← hD, List.all_eq_true]; intro z hz;obtain ⟨l, hl, hzl⟩ := List.mem_flatten.1 hz;exact List.all_eq_true.1 (hl1 l (List.mem_of_mem_drop hl)) z hzl
   have ho : rowO 102 ls rest = .cells (F ++ (D ++ rest)).toArray 102 (0, 0) := by
    unfold rowO; rw [← hF, ← hD, ← List.append_assoc, ← List.flatten_append, List.take_append_drop]
   rw [ho];rw [hx0] at *;have hx9 : ([x] : List (List Value)).length = 1 := rfl;have hp1 := part_D (rest := rest) hFl hDl;refine qd ?_;refine qg (qg (qg (qA ak ?_)));refine qg (qg (cap_c sl_38 ?_));refine qg (gtrB (fun c31 => ?_) (fun c31 => ?_))
   ·
    refine qd ?_;refine qg (qg (qg (sliceB_hi (hi := i) sl_38 rfl af ?_)));refine qg (qg (qg (qA ak ?_)));refine qg (qg (sub_i64 ak ?_));rw [show ((ls.length : Nat) : Int) + ((1 : Nat) : Int) - (i : Int) = ((ls.length + 1 - i : Nat) : Int) by omega];refine qg (append_grow (l := F ++ (D ++ rest)) (E := 102) (b := b) sl_38 ux_i z_102 kH (by simp only [List.length_append]; omega) af af af ?_);intro b40 nc zz rest2 hzz hnc hnc1 hnc2;have etk : (F ++ (D ++ rest)).take (i * 38) = F := by rw [← hFl, List.take_left]
    rw [etk];have hz1 := ins1 (A := F) (zz := zz) (rest := rest2) (x := x) hFl (by rw [hxl, hzz]; omega);rw [hxl] at hz1;have hz2 := ins2 (A := F) (x := x) (w := zz.drop 38) (D := D) (rest := rest2) (off := (i + 1) * 38) (by rw [hFl, hxl]; omega) (by rw [List.length_drop, hzz, hDl]; omega);refine qg (qd ?_);refine qg (qg (qg (sliceB_lo (lo := i) sl_38 rfl af ?_)));rw [if_neg (show ¬ nc = i by omega)];refine qg (qg (copy_sl (l := F ++ (zz ++ rest2)) (l' := F ++ (x ++ (zz.drop 38 ++ rest2))) sl_38 hu (by rw [hx9]; omega) kR (by simp only [List.length_append, hx9]; omega) (by rw [Nat.zero_add]; simpa using hz1) kR.symm ?_));refine qd ?_;refine qD mixed [] [0, 1, 2, 3, 4, 5, 6, 7, 8] [] ae sub_nil ?_;refine qr rfl rfl rfl (qr rfl rfl rfl (qr rfl rfl rfl (qr rfl rfl rfl (qA ak ?_))));refine qr rfl rfl rfl (sliceB_lo (lo := i + 1) sl_38 af af ?_);rw [if_neg (show ¬ nc = i + 1 by omega)];refine qr rfl rfl rfl (qr rfl rfl rfl (qr rfl rfl rfl (sliceB_lo (lo := i) sl_38 rfl af ?_)));rw [if_neg (show ¬ cap = i by omega)];refine qj rfl rfl rfl ?_;refine copy_other (l := F ++ (x ++ (zz.drop 38 ++ rest2))) (l' := F ++ (x ++ (D ++ rest2))) (n := ls.length - i) (b2 := b) (l2 := F ++ (D ++ rest)) sl_38 (show min _ _ = _ by omega) kR (by first | exact List.Mem.head _ | exact kT kH) (by simp only [List.length_append, List.length_drop]; omega) (by simp only [List.length_append]; omega) (by rw [Nat.zero_add, hp1]; exact hD1) (by rw [Nat.zero_add, Nat.zero_add, hp1]; exact hz2) kR.symm ?_;refine ⟨am, ?_⟩;refine qe zf ?_;refine qg (qg (qd ?_));refine DoRet.r1 (.tmp rfl) (qh (zv (zu kS))) zl ?_;refine ⟨[(b40, _)], rfl, ?_⟩;rw [show i + (ls.length + 1 - i) = ls.length + 1 by omega] at *;exact ins_row hls hl1 hxl hx1 hF hD hi rfl hnc hnc1 hnc2
   ·
    refine qd ?_;refine qg (qg (qg (qg (qA ak ?_))));refine qg ?_;rw [show ((ls.length : Nat) : Int) + ((1 : Nat) : Int) = ((ls.length + 1 : Nat) : Int) by omega];refine sliceB_hi (hi := ls.length + 1) sl_38 rfl af ?_;refine qg (qd ?_);refine qg (qg (qg (qg (qg (qA ak ?_)))));refine qg (sliceB_lo (lo := i + 1) sl_38 af af ?_);rw [if_neg (show ¬ cap = i + 1 by omega)];refine qg (DoCall.ext (overlaps_ext Tryz.func178 rfl rfl find_none_178 find_ov_178 rfl sl_38 hu kH (by simp only [List.length_append]; omega)) ?_);rintro v67 h67 L_ le67 ⟨rfl, rfl⟩;have hz3 := ins3 (F := F) (D := D) (rest := rest) (off := (i + 1) * 38) (sz := 38) af af;have hz4 := over_split (a := F) (y := (D ++ rest).take 38) (c := D ++ rest.drop 38) (r := x) hFl (by rw [List.length_take, List.length_append]; omega);replace hu := hu.mono le67;refine qg (not_ff ?_);refine qd ?_;refine qD mixed [] [0, 1, 2, 3, 4, 5, 6, 7, 8] [] ae sub_nil ?_;refine qr rfl rfl rfl (qr rfl rfl rfl (qr rfl rfl rfl (qr rfl rfl rfl (qA ak ?_))));refine qr rfl rfl rfl (sliceB_lo (lo := i + 1) sl_38 af af ?_);rw [if_neg (show ¬ cap = i + 1 by omega)];refine qr rfl rfl rfl (qr rfl rfl rfl (qr rfl rfl rfl (sliceB_lo (lo := i) sl_38 rfl af ?_)));rw [if_neg (show ¬ cap = i by omega)];refine qj rfl rfl rfl ?_;refine copy_same (l := F ++ (D ++ rest)) (l' := F ++ ((D ++ rest).take 38 ++ (D ++ rest.drop 38))) (n := ls.length - i) sl_38 (show min _ _ = _ by omega) kR (by simp only [List.length_append]; omega) (by simp only [List.length_append]; omega) (by rw [Nat.zero_add, hp1]; exact hD1) (by rw [Nat.zero_add, Nat.zero_add, hp1]; exact hz3) kR.symm ?_;refine ⟨am, ?_⟩;refine qe zf ?_;refine qg (qg (qg (sliceB_lo (lo := i) sl_38 rfl af ?_)));rw [if_neg (show ¬ cap = i by omega)];refine qg (qg (copy_sl (l := F ++ ((D ++ rest).take 38 ++ (D ++ rest.drop 38))) (l' := F ++ (x ++ (D ++ rest.drop 38))) sl_38 hu (by rw [hx9]; omega) kR (by simp only [List.length_append, List.length_take, List.length_drop, hx9]; omega) (by rw [Nat.zero_add]; simpa using hz4) kR.symm ?_));refine qd ?_;refine qg (qg (qd ?_));refine DoRet.r1 (.tmp rfl) (qh (zv kS)) zl ?_;refine ⟨[(b, _)], rfl, ?_⟩;exact ins_row hls hl1 hxl hx1 hF hD hi rfl (by rw [List.length_drop]; omega) af hc2
end Go.Brd
namespace Go.Brd
open Go Go.Brd Go.Proofs
set_option linter.unusedVariables false
theorem it_143_3 : intT Tryz.prog 143 3 .i64 = true := by kernel_rfl
theorem opC_one2 {o : Op} {pv : Value} (h : oneCell pv = true) : (opC2 o pv).all oneCell = true := opC_one (o, pv) h
structure LB (l : List ID) (x : ID) (i : Nat) : Prop where
 le : i ≤ l.length
 lt : ∀ k y, l[k]? = some y → (Lib.compareBytes y x < 0 ↔ k < i)
theorem ris_lt {l : List ID} (h : risB l = true) {i j : Nat} {x y : ID} (hij : i < j) (hx : l[i]? = some x) (hy : l[j]? = some y) : Lib.compareBytes x y < 0 := by
 obtain ⟨h1, e1⟩ := List.getElem?_eq_some_iff.1 hx;obtain ⟨h2, e2⟩ := List.getElem?_eq_some_iff.1 hy;rw [← e1, ← e2];exact List.pairwise_iff_getElem.1 (risB_pairwise h) i j h1 h2 hij
theorem LB.mem {l : List ID} {x : ID} {i : Nat} (h : LB l x i) (hr : risB l = true) : x ∈ l ↔ l[i]? = some x := by
 constructor
 · intro hm
   obtain ⟨k, hk, e⟩ := List.getElem_of_mem hm;have hk' : l[k]? = some x := by rw [List.getElem?_eq_getElem hk, e]
   have h0 : ¬ Lib.compareBytes x x < 0 := by rw [cmp_id_iff.2 rfl]; decide
   have h1 : ¬ k < i := fun hlt => h0 ((h.lt k x hk').2 hlt)
   rcases Nat.lt_or_ge i k with h2 | h2
   · exfalso
     have hi' : l[i]? = some l[i] := List.getElem?_eq_getElem af;have := (h.lt i _ hi').1 (ris_lt hr h2 hi' hk');omega
   · have : k = i := by omega
     subst this; exact hk'
 · exact fun h => List.mem_of_getElem? h
theorem LB.of {l : List ID} {x : ID} {i : Nat} (hi : i ≤ l.length) (h1 : ∀ k, k < i → ∀ y, l[k]? = some y → Lib.compareBytes y x < 0) (h2 : ∀ k, i ≤ k → ∀ y, l[k]? = some y → ¬ Lib.compareBytes y x < 0) : LB l x i :=
 ⟨hi, fun k y hy => ⟨fun h => by
  rcases Nat.lt_or_ge k i with h3 | h3
  · exact h3
  · exact absurd h (h2 k h3 y hy), fun h => h1 k h y hy⟩⟩
theorem bsearch_id {c : World} {h : GH} {L : Own} {v : Value} {l : List ID} {x : ID} (hs : RIds h v l) (hr : risB l = true) (hx : (idC x).length = 32):
 Fun Tryz.prog c 72 #[v, idV x, .func (.func 69) #[] #[]] h L (fun u _ L' => (∃ i, u = .tuple #[.int .i64 (i : Nat), .bool (decide (x ∈ l))] ∧ LB l x i) ∧ L = L') := by
 have hsm := hs.small; rw [List.length_map] at hsm;have h32 := hs.len32;refine zS (N := 49) (args := [v, idV x, .func (.func 69) #[] #[]]) Tryz.func72 ?_;refine qg (box_at rfl ?_);intro p4 h2 le1 hp4;replace hs := hs.mono le1;refine qg (qg (qd ?_));refine qg (qg (qm sl_22 aa ?_));refine qg (qd ?_);refine qg (qg (qg (qd ?_)));refine qL (fun s0 nn s' h' L' => ∃ (i : Nat) (j : Nat), s' = [(9, .int .i64 i), (10, .int .i64 j)] ++ qR s0 [0, 2, 4, 8] ∧ nn = j - i ∧ L = L' ∧ i ≤ j ∧ j ≤ l.length ∧ (∀ k, k < i → ∀ y, l[k]? = some y → Lib.compareBytes y x < 0) ∧ (∀ k, j ≤ k → ∀ y, l[k]? = some y → ¬ Lib.compareBytes y x < 0)) ⟨0, l.length, rfl, rfl, rfl, ?_⟩ zg zl zn ?_
 · exact ⟨Nat.zero_le _, Nat.le_refl _, fun k hk => absurd hk (Nat.not_lt_zero k), fun k hk y hy => by have := (List.getElem?_eq_some_iff.1 hy).1; omega⟩
 rintro nn s1 h3 L_ le4 ⟨i, j, rfl, rfl, rfl, hij, hj, hlo, hhi⟩;replace hs := hs.mono le4; replace hp4 := hp4.mono le4;refine qg (qg (qg (lssB (fun c17 => ?_) (fun c17 => ?_))))
 ·
  have hijl : i < j := by omega
  obtain ⟨m, hm⟩ : ∃ m, (i + j) / 2 ^ 1 = m := ⟨_, rfl⟩;have hmb : i ≤ m ∧ m < j := by rw [show (2 : Nat) ^ 1 = 2 from rfl] at hm; omega
  obtain ⟨y, hy⟩ := qE (l := l) (k := m) af;have hy32 : (idC y).length = 32 := by rw [idC_length]; exact h32 y (List.mem_of_getElem? hy)
  refine qd ?_;refine qg (qg (qg (add_i64n (a := i) (b := j) af ?_)));refine qg (conv_u64 it_3_143 af ?_);refine qg (shr_nat (n := 1) ah ?_);rw [hm];refine qg (conv_i64 it_143_3 ak ?_);refine qg (qd ?_);refine qD mixed [] [0, 1, 2, 3, 4, 5, 6, 7] [] ae sub_nil ?_;refine qr rfl rfl rfl (qr rfl rfl rfl (qr rfl rfl rfl (qr rfl rfl rfl (qi (k := m) sl_22 aa rfl hy ?_))));intro p27 r27 hl27 hp27;refine qr rfl rfl rfl (qP ag_74 aa aa ?_);refine qr rfl rfl rfl (qX ag_74 aa ag ?_);refine qj rfl rfl rfl ?_;refine qc (digest_cmp (x := y) (y := x) hy32 hx) ?_;rintro v30 h6 L_ le5 ⟨rfl, rfl⟩;refine ⟨am, ?_⟩;refine qr rfl rfl rfl (lssB (fun c31 => ?_) (fun c31 => ?_))
  ·
   refine qe zf ?_;refine qg (qg (qA ak ?_));refine qg (qd ?_)
   exact back (m := _) ⟨m + 1, j, rfl, rfl, rfl, by omega, hj, fun k hk y2 hy2 => by
    rcases Nat.lt_or_ge k m with h1 | h1
    · exact cmp_trans (ris_lt hr h1 hy2 hy) c31
    · have : k = m := by omega
      subst this; rw [hy] at hy2; cases hy2; exact c31, hhi⟩ af zg zl zn
  ·
   refine qe zf ?_;refine qg (qg (qd ?_))
   exact back (m := _) ⟨i, m, rfl, rfl, rfl, by omega, by omega, hlo, fun k hk y2 hy2 hlt => by
    rcases Nat.lt_or_ge m k with h1 | h1
    · exact c31 (cmp_trans (ris_lt hr h1 hy hy2) hlt)
    · have : k = m := by omega
      subst this; rw [hy] at hy2; cases hy2; exact c31 hlt⟩ af zg zl zn
 ·
  have hie : i = j := by omega
  subst hie;have hlb := LB.of hj hlo hhi;have hmem := hlb.mem hr;refine qd ?_;refine qD mixed [] [0, 1, 2, 3, 4, 5, 6, 7, 8, 9, 10, 11, 12, 13, 14, 15] [] ae sub_nil ?_;refine qr rfl rfl rfl (qr rfl rfl rfl (qr rfl rfl rfl (qr rfl rfl rfl (lssB (fun c38 => ?_) (fun c38 => ?_)))))
  ·
   obtain ⟨y, hy⟩ := qE (l := l) (k := i) af;have hy32 : (idC y).length = 32 := by rw [idC_length]; exact h32 y (List.mem_of_getElem? hy)
   refine qr rfl rfl rfl (DoDr.rdT rfl rfl rfl rfl rfl ?_);refine DoDr.rdT rfl rfl rfl rfl rfl ?_;refine DoDr.rdT rfl rfl rfl rfl rfl ?_;refine DoDr.rdT rfl rfl rfl rfl rfl ?_;refine qi (k := i) sl_22 aa rfl hy ?_;intro p43 r43 hl43 hp43;refine DoDr.rdT rfl rfl rfl rfl rfl ?_;refine qP ag_74 aa aa ?_;refine DoDr.rdT rfl rfl rfl rfl rfl ?_;refine qX ag_74 aa ag ?_;refine DoDr.efT rfl rfl rfl rfl rfl ?_;refine qc (digest_cmp (x := y) (y := x) hy32 hx) ?_;rintro v46 h8 L_ le7 ⟨rfl, rfl⟩;refine ⟨am, ?_⟩;refine DoDr.rdT rfl rfl rfl rfl rfl ?_;refine eqlB (fun c47 => ?_) (fun c47 => ?_)
   ·
    refine qr rfl rfl rfl (qr rfl rfl rfl (qr rfl rfl rfl (qe zf ?_)));refine DoRet.r2 (.tmp rfl) (.tmp rfl) zg zl ?_;have he : y = x := cmp_id_iff.1 c47;subst he;exact ⟨⟨i, by rw [decide_eq_true (hmem.2 hy)], hlb⟩, rfl⟩
   ·
    refine qr rfl rfl rfl (qr rfl rfl rfl (qr rfl rfl rfl (qe zf ?_)));refine DoRet.r2 (.tmp rfl) (.tmp rfl) zg zl ?_
    have he : ¬ x ∈ l := fun hm => by
     have := hmem.1 hm; rw [hy] at this; cases this; exact c47 (cmp_id_iff.2 rfl)
    exact ⟨⟨i, by rw [decide_eq_false he], hlb⟩, rfl⟩
  ·
   refine qr rfl rfl rfl (DoDr.skipT rfl rfl rfl rfl ?_);refine DoDr.skipT rfl rfl rfl rfl ?_;refine DoDr.skipT rfl rfl rfl rfl ?_;refine DoDr.skipT rfl rfl rfl rfl ?_;refine DoDr.skipT rfl rfl rfl rfl ?_;refine DoDr.skipT rfl rfl rfl rfl ?_;refine DoDr.skipT rfl rfl rfl rfl ?_;refine DoDr.skipT rfl rfl rfl rfl ?_;refine qr rfl rfl rfl (qr rfl rfl rfl (qr rfl rfl rfl (qe zf ?_)));refine DoRet.r2 (.tmp rfl) (.tmp rfl) zg zl ?_
   have he : ¬ x ∈ l := fun hm => by
    have := (List.getElem?_eq_some_iff.1 (hmem.1 hm)).1; omega
   exact ⟨⟨i, by rw [decide_eq_false he], hlb⟩, rfl⟩
theorem dag_find {c : World} {h : GH} {L : Own} {iv ov : Value} {ids : List ID} {x : ID} (hi : RIds h iv ids) (hr : risB ids = true) (ho : oneCell ov = true) (hx : (idC x).length = 32):
 Fun Tryz.prog c 29 #[gV iv ov, idV x] h L (fun u _ L' => (∃ i, u = .tuple #[.int .i64 (i : Nat), .bool (decide (x ∈ ids))] ∧ LB ids x i) ∧ L = L') := by
 refine zS (N := 12) (args := [gV iv ov, idV x]) Tryz.func29 ?_;refine qg (box_at rfl ?_);intro p2 h2 le1 hp2;replace hi := hi.mono le1;refine qg (box_at rfl ?_);intro p3 h4 le3 hp3;replace hi := hi.mono le3; replace hp2 := hp2.mono le3;refine qg (qg (qd ?_));refine qg (qf fi_25_0 aa ?_);intro p6 hp6;refine qg (ql sc_22 aa ?_);refine qg (qX ag_74 aa ag ?_);refine qg (qc (bsearch_id hi hr hx) ?_);rintro v9 h6 L_ le5 ⟨⟨i9, rfl, hlb⟩, rfl⟩;refine qg (qg (qg (qg (qd ?_))));refine DoRet.r2 (.tmp rfl) (.tmp rfl) zg zl ?_;exact ⟨⟨i9, rfl, hlb⟩, rfl⟩
theorem dag_twin {c : World} {h : GH} {L : Own} {o : Op} {pv : Value} (hp : RIds h pv o.preds) (hl : o.preds.length ≤ 1000):
 Fun Tryz.prog c 31 #[opV o pv] h L (fun u h' L' => (∃ pv', u = opV o pv' ∧ RIds h' pv' o.preds) ∧ L = L') := by
 refine zS (N := 8) (args := [.agg (opC2 o pv).toArray]) Tryz.func31 ?_;refine qg (box_own rfl ?_);intro b1;refine qg (qa zc_61 ?_);intro b2;refine qd ?_;refine qg (qw fi_61_1 ?_);refine qg (qO (v := pv) sc_22 (kT kH) rfl ?_);refine qg (qc (Fun.frozen al (clone_id hp al)) ?_);rintro v5 h2 L_ le1 ⟨rfl, hv5⟩;refine qg (qw fi_61_1 ?_);refine qg (kB si_22 ac ai ad ((zc kR).trans zw) ab rfl ((zc kR).trans zw).symm ?_);refine qd ?_;refine qg (qx (r := opC2 o v5) ag_61 (kT kH) ab rfl ?_);refine qg (kB si_61 ac ai ad kR ab rfl kR.symm ?_);refine qd ?_;refine DoRet.r1 (.cell rfl (qx (r := opC2 o v5) ag_61 kH ab rfl rfl)) (qh (zu (zu kS))) zl ?_;exact ⟨⟨v5, rfl, hv5⟩, rfl⟩
end Go.Brd
namespace Go.Brd
open Go Go.Brd Go.Proofs
set_option linter.unusedVariables false
theorem pl_25 : placesOf Tryz.prog 25 = some [(0, 1), (1, 1)] := by kernel_rfl
theorem si_23 : sizeIs Tryz.prog 23 1 = true := by kernel_rfl
theorem si_25 : sizeIs Tryz.prog 25 2 = true := by kernel_rfl
theorem z_61 : zeroIs Tryz.prog 61 11 = true := by kernel_rfl
theorem zc_25 : zeroC Tryz.prog 25 = some ([.slice none 0 0, .slice none 0 0]) := by kernel_rfl
theorem ins_lt {α : Type} {l : List α} {a : α} {i k : Nat} (h : k < i) (hi : i ≤ l.length) : (l.take i ++ a :: l.drop i)[k]? = l[k]? := by
 rw [List.getElem?_append_left ar, List.getElem?_take_of_lt h]
theorem ins_eq {α : Type} {l : List α} {a : α} {i : Nat} (hi : i ≤ l.length) : (l.take i ++ a :: l.drop i)[i]? = some a := by
 rw [List.getElem?_append_right (by rw [List.length_take]; omega)]; simp [Nat.min_eq_left hi]
theorem ins_gt {α : Type} {l : List α} {a : α} {i k : Nat} (h : i < k) (hi : i ≤ l.length) : (l.take i ++ a :: l.drop i)[k]? = l[k - 1]? := by
 rw [List.getElem?_append_right ar, List.length_take, Nat.min_eq_left hi, show k - i = (k - 1 - i) + 1 by omega, List.getElem?_cons_succ, List.getElem?_drop]; congr 1; omega
theorem ins_len {α : Type} {l : List α} {a : α} {i : Nat} (hi : i ≤ l.length) : (l.take i ++ a :: l.drop i).length = l.length + 1 := by simp; omega
theorem takeS {α : Type} {l : List α} {k : Nat} {a : α} (h : l[k]? = some a) : l.take (k + 1) = l.take k ++ [a] := by rw [List.take_add_one, h]; rfl
def RAll (h : GH) (ys : List (Op × Value)) : Prop := ∀ y ∈ ys, ROp h y
theorem RAll.mono {h h' : GH} {ys : List (Op × Value)} (hle : GH.le h h') (r : RAll h ys) : RAll h' ys := fun y hy => (r y hy).mono hle
theorem RAll.nil (h : GH) : RAll h [] := fun _ hy => by cases hy
theorem RAll.snoc {h : GH} {ys : List (Op × Value)} {o : Op} {pv : Value} (r : RAll h ys) (hp : RIds h pv o.preds) (hw : OpWF o) : RAll h (ys ++ [(o, pv)]) := fun y hy => by
 rcases List.mem_append.1 hy with hy | hy
 · exact r y hy
 · have : y = (o, pv) := by simpa using hy
   subst this; exact ⟨hp, hw⟩
theorem opC_snoc {E : Nat} {v : Value} {ys : List (Op × Value)} {o : Op} {pv : Value} {N : Own} (h : OS E 11 v (ys.map opC ++ [opC2 o pv]) N) : OS E 11 v ((ys ++ [(o, pv)]).map opC) N := by
 rw [List.map_append]; exact h
theorem fst1_snoc (ys : List (Op × Value)) (o : Op) (pv : Value) : fst1 (ys ++ [(o, pv)]) = fst1 ys ++ [o] := by simp [fst1]
theorem fst1_get {xs : List (Op × Value)} {k : Nat} (hk : k < xs.length) : ∃ x, xs[k]? = some x ∧ (fst1 xs)[k]? = some x.1 := ⟨xs[k], List.getElem?_eq_getElem hk, fst1_at (List.getElem?_eq_getElem hk)⟩
theorem ROps.all {h : GH} {v : Value} {xs : List (Op × Value)} (r : ROps h v xs) : RAll h xs := r.each
theorem dag_put {c : World} {h : GH} {L : Own} {iv ov pv : Value} {ids : List ID} {xs : List (Op × Value)} {id : ID} {o : Op} (hi : RIds h iv ids) (hr : risB ids = true) (ho : ROps h ov xs) (hl : ids.length = xs.length) (h60 : xs.length ≤ 60) (hid : (idC id).length = 32) (hp : RIds h pv o.preds) (hw : OpWF o) (hop : o.preds.length ≤ 4) (hps : ∀ x ∈ xs, x.1.preds.length ≤ 4):
 Fun Tryz.prog c 32 #[gV iv ov, idV id, opV o pv] h L (fun u h' L' => ((id ∈ ids ∧ u = .tuple #[gV iv ov, .bool false]) ∨ (id ∉ ids ∧ ∃ i iv' ov' xs', LB ids id i ∧ u = .tuple #[gV iv' ov', .bool true] ∧ RIds h' iv' (ids.take i ++ id :: ids.drop i) ∧ ROps h' ov' xs' ∧ fst1 xs' = (fst1 xs).take i ++ o :: (fst1 xs).drop i)) ∧ L = L') := by
 refine zS (N := 74) (args := [gV iv ov, idV id, .agg (opC2 o pv).toArray]) Tryz.func32 ?_;refine qg (box_at rfl ?_);intro p3 h2 le1 hp3;replace hi := hi.mono le1; replace ho := ho.mono le1; replace hp := hp.mono le1;refine qg (box_at rfl ?_);intro p4 h4 le3 hp4;replace hi := hi.mono le3; replace ho := ho.mono le3; replace hp := hp.mono le3; replace hp3 := hp3.mono le3;refine qg (box_at rfl ?_);intro p5 h6 le5 hp5;replace hi := hi.mono le5; replace ho := ho.mono le5; replace hp := hp.mono le5; replace hp3 := hp3.mono le5; replace hp4 := hp4.mono le5;refine qg (qa zc_25 ?_);intro b6;refine qg (qd ?_);refine qg (qX ag_25 aa ag ?_);refine qg (qX ag_74 aa ag ?_);refine qg (qc (dag_find hi hr (Sl.one ho.sl) hid) ?_);rintro v15 h8 L_ le7 ⟨⟨i15, rfl, hlb⟩, rfl⟩;replace hi := hi.mono le7; replace ho := ho.mono le7; replace hp := hp.mono le7; replace hp3 := hp3.mono le7; replace hp4 := hp4.mono le7; replace hp5 := hp5.mono le7;refine qg (qg (qg (qg (qg (qd ?_)))));refine qg (qd ?_);obtain ⟨bm, hbm⟩ : ∃ b, decide (id ∈ ids) = b := ⟨_, rfl⟩;rw [hbm];cases bm
 ·
  have hnm := of_decide_eq_false hbm;have hile := hlb.le;have hfl := fst1_len xs;have hZl := ins_len (l := fst1 xs) (a := o) (i := i15) af;have hIl := ins_len (l := ids) (a := id) (i := i15) hile;refine DoDraw.cut (fun s0 s' h' L' => ∃ (b10 : Nat) (vi : Value), s' = [(10, .pointer (some ⟨b10, 0, none⟩))] ++ qR s0 [3, 5, 6, 8] ∧ (b10, .cells [vi, .slice none 0 0].toArray 25 (0, 0)) :: (b6, .cells [.slice none 0 0, .slice none 0 0].toArray 25 (0, 0)) :: L = L' ∧ RIds h' vi (ids.take i15 ++ id :: ids.drop i15)) ?_ ?_
  ·
   refine DoDraw.intros mixed [0, 1, 3, 4, 2, 5, 6, 7, 8, 9] [[0, 1, 3, 4, 2, 5, 6, 8, 7, 9], [0, 1, 3, 4, 2, 5, 8, 6, 7, 9], [0, 1, 3, 4, 2, 8, 5, 6, 7, 9], [0, 1, 3, 4, 5, 2, 6, 7, 8, 9], [0, 1, 3, 4, 5, 2, 6, 8, 7, 9], [0, 1, 3, 4, 5, 2, 8, 6, 7, 9], [0, 1, 3, 4, 5, 8, 2, 6, 7, 9], [0, 1, 3, 4, 8, 2, 5, 6, 7, 9], [0, 1, 3, 4, 8, 5, 2, 6, 7, 9]] [] ae am (fcons ?_ (fcons ?_ (fcons ?_ (fcons ?_ (fcons ?_ (fcons ?_ (fcons ?_ (fcons ?_ (fcons ?_ (fcons ?_ fnil))))))))))
   ·
    refine qf fi_25_0 aa ?_;intro p20 hp20;refine ql sc_22 aa ?_;refine qX ag_74 aa ag ?_;refine qc (clone_id hi al) ?_;rintro v22 h10 L_ le9 ⟨N22, rfl, hv22⟩;refine ⟨am, ?_⟩;refine qB sl_22 z_74 rfl ag ah aj ?_;intro v25 h12 le11 hv25;refine ⟨am, ?_⟩;refine DoCall.os kR (insert_id hv22 hv25 (by rw [List.length_map]; exact hlb.le) al) ?_;intro v26 h14 N26 le13 hv26;refine ⟨_, kR.symm, ?_⟩;refine ⟨am, ?_⟩;refine DoV.freeze hv26 ar kR ?_;intro h15 le16 hv26;refine build_struct zc_25 pl_25 (qy ac Parts.nil) rfl ?_;refine ⟨am, ?_⟩;refine qa zc_25 ?_;intro b10;refine ⟨am, ?_⟩;refine kB si_25 ac ai ad kR ab rfl kR.symm ?_;refine ⟨am, ?_⟩;exact ⟨_, zn, _, _, rfl, rfl, by have h9 := hv26; rw [← List.map_take, ← List.map_drop, ← List.map_cons, ← List.map_append] at h9; exact h9⟩
   ·
    refine qf fi_25_0 aa ?_;intro p20 hp20;refine ql sc_22 aa ?_;refine qX ag_74 aa ag ?_;refine qc (clone_id hi al) ?_;rintro v22 h18 L_ le17 ⟨N22, rfl, hv22⟩;refine ⟨am, ?_⟩;refine qB sl_22 z_74 rfl ag ah aj ?_;intro v25 h20 le19 hv25;refine ⟨am, ?_⟩;refine DoCall.os kR (insert_id hv22 hv25 (by rw [List.length_map]; exact hlb.le) al) ?_;intro v26 h22 N26 le21 hv26;refine ⟨_, kR.symm, ?_⟩;refine ⟨am, ?_⟩;refine qa zc_25 ?_;intro b10;refine ⟨am, ?_⟩;refine DoV.freeze hv26 ar ((zc kR).trans zm.symm) ?_;intro h23 le24 hv26;refine build_struct zc_25 pl_25 (qy ac Parts.nil) rfl ?_;refine ⟨am, ?_⟩;refine kB si_25 ac ai ad kR ab rfl kR.symm ?_;refine ⟨am, ?_⟩;exact ⟨_, zn, _, _, rfl, rfl, by have h9 := hv26; rw [← List.map_take, ← List.map_drop, ← List.map_cons, ← List.map_append] at h9; exact h9⟩
   ·
    refine qf fi_25_0 aa ?_;intro p20 hp20;refine ql sc_22 aa ?_;refine qX ag_74 aa ag ?_;refine qc (clone_id hi al) ?_;rintro v22 h26 L_ le25 ⟨N22, rfl, hv22⟩;refine ⟨am, ?_⟩;refine qB sl_22 z_74 rfl ag ah aj ?_;intro v25 h28 le27 hv25;refine ⟨am, ?_⟩;refine qa zc_25 ?_;intro b10;refine ⟨am, ?_⟩;refine DoCall.os ((zc kR).trans zm.symm) (insert_id hv22 hv25 (by rw [List.length_map]; exact hlb.le) al) ?_;intro v26 h30 N26 le29 hv26;refine ⟨_, ((zc kR).trans zm.symm).symm, ?_⟩;refine ⟨am, ?_⟩;refine DoV.freeze hv26 ar ((zc kR).trans zm.symm) ?_;intro h31 le32 hv26;refine build_struct zc_25 pl_25 (qy ac Parts.nil) rfl ?_;refine ⟨am, ?_⟩;refine kB si_25 ac ai ad kR ab rfl kR.symm ?_;refine ⟨am, ?_⟩;exact ⟨_, zn, _, _, rfl, rfl, by have h9 := hv26; rw [← List.map_take, ← List.map_drop, ← List.map_cons, ← List.map_append] at h9; exact h9⟩
   ·
    refine qf fi_25_0 aa ?_;intro p20 hp20;refine ql sc_22 aa ?_;refine qX ag_74 aa ag ?_;refine qc (clone_id hi al) ?_;rintro v22 h34 L_ le33 ⟨N22, rfl, hv22⟩;refine ⟨am, ?_⟩;refine qa zc_25 ?_;intro b10;refine ⟨am, ?_⟩;refine qB sl_22 z_74 rfl ag ah aj ?_;intro v25 h36 le35 hv25;refine ⟨am, ?_⟩;refine DoCall.os ((zc kR).trans zm.symm) (insert_id hv22 hv25 (by rw [List.length_map]; exact hlb.le) al) ?_;intro v26 h38 N26 le37 hv26;refine ⟨_, ((zc kR).trans zm.symm).symm, ?_⟩;refine ⟨am, ?_⟩;refine DoV.freeze hv26 ar ((zc kR).trans zm.symm) ?_;intro h39 le40 hv26;refine build_struct zc_25 pl_25 (qy ac Parts.nil) rfl ?_;refine ⟨am, ?_⟩;refine kB si_25 ac ai ad kR ab rfl kR.symm ?_;refine ⟨am, ?_⟩;exact ⟨_, zn, _, _, rfl, rfl, by have h9 := hv26; rw [← List.map_take, ← List.map_drop, ← List.map_cons, ← List.map_append] at h9; exact h9⟩
   ·
    refine qf fi_25_0 aa ?_;intro p20 hp20;refine ql sc_22 aa ?_;refine qX ag_74 aa ag ?_;refine qB sl_22 z_74 rfl ag ah aj ?_;intro v25 h42 le41 hv25;replace hi := hi.mono le41;refine ⟨am, ?_⟩;refine qc (clone_id hi al) ?_;rintro v22 h44 L_ le43 ⟨N22, rfl, hv22⟩;replace hv25 := hv25.mono le43;refine ⟨am, ?_⟩;refine DoCall.os kR (insert_id hv22 hv25 (by rw [List.length_map]; exact hlb.le) al) ?_;intro v26 h46 N26 le45 hv26;refine ⟨_, kR.symm, ?_⟩;refine ⟨am, ?_⟩;refine DoV.freeze hv26 ar kR ?_;intro h47 le48 hv26;refine build_struct zc_25 pl_25 (qy ac Parts.nil) rfl ?_;refine ⟨am, ?_⟩;refine qa zc_25 ?_;intro b10;refine ⟨am, ?_⟩;refine kB si_25 ac ai ad kR ab rfl kR.symm ?_;refine ⟨am, ?_⟩;exact ⟨_, zn, _, _, rfl, rfl, by have h9 := hv26; rw [← List.map_take, ← List.map_drop, ← List.map_cons, ← List.map_append] at h9; exact h9⟩
   ·
    refine qf fi_25_0 aa ?_;intro p20 hp20;refine ql sc_22 aa ?_;refine qX ag_74 aa ag ?_;refine qB sl_22 z_74 rfl ag ah aj ?_;intro v25 h50 le49 hv25;replace hi := hi.mono le49;refine ⟨am, ?_⟩;refine qc (clone_id hi al) ?_;rintro v22 h52 L_ le51 ⟨N22, rfl, hv22⟩;replace hv25 := hv25.mono le51;refine ⟨am, ?_⟩;refine DoCall.os kR (insert_id hv22 hv25 (by rw [List.length_map]; exact hlb.le) al) ?_;intro v26 h54 N26 le53 hv26;refine ⟨_, kR.symm, ?_⟩;refine ⟨am, ?_⟩;refine qa zc_25 ?_;intro b10;refine ⟨am, ?_⟩;refine DoV.freeze hv26 ar ((zc kR).trans zm.symm) ?_;intro h55 le56 hv26;refine build_struct zc_25 pl_25 (qy ac Parts.nil) rfl ?_;refine ⟨am, ?_⟩;refine kB si_25 ac ai ad kR ab rfl kR.symm ?_;refine ⟨am, ?_⟩;exact ⟨_, zn, _, _, rfl, rfl, by have h9 := hv26; rw [← List.map_take, ← List.map_drop, ← List.map_cons, ← List.map_append] at h9; exact h9⟩
   ·
    refine qf fi_25_0 aa ?_;intro p20 hp20;refine ql sc_22 aa ?_;refine qX ag_74 aa ag ?_;refine qB sl_22 z_74 rfl ag ah aj ?_;intro v25 h58 le57 hv25;replace hi := hi.mono le57;refine ⟨am, ?_⟩;refine qc (clone_id hi al) ?_;rintro v22 h60 L_ le59 ⟨N22, rfl, hv22⟩;replace hv25 := hv25.mono le59;refine ⟨am, ?_⟩;refine qa zc_25 ?_;intro b10;refine ⟨am, ?_⟩;refine DoCall.os ((zc kR).trans zm.symm) (insert_id hv22 hv25 (by rw [List.length_map]; exact hlb.le) al) ?_;intro v26 h62 N26 le61 hv26;refine ⟨_, ((zc kR).trans zm.symm).symm, ?_⟩;refine ⟨am, ?_⟩;refine DoV.freeze hv26 ar ((zc kR).trans zm.symm) ?_;intro h63 le64 hv26;refine build_struct zc_25 pl_25 (qy ac Parts.nil) rfl ?_;refine ⟨am, ?_⟩;refine kB si_25 ac ai ad kR ab rfl kR.symm ?_;refine ⟨am, ?_⟩;exact ⟨_, zn, _, _, rfl, rfl, by have h9 := hv26; rw [← List.map_take, ← List.map_drop, ← List.map_cons, ← List.map_append] at h9; exact h9⟩
   ·
    refine qf fi_25_0 aa ?_;intro p20 hp20;refine ql sc_22 aa ?_;refine qX ag_74 aa ag ?_;refine qB sl_22 z_74 rfl ag ah aj ?_;intro v25 h66 le65 hv25;replace hi := hi.mono le65;refine ⟨am, ?_⟩;refine qa zc_25 ?_;intro b10;refine ⟨am, ?_⟩;refine qc (clone_id hi al) ?_;rintro v22 h68 L_ le67 ⟨N22, rfl, hv22⟩;replace hv25 := hv25.mono le67;refine ⟨am, ?_⟩;refine DoCall.os kR (insert_id hv22 hv25 (by rw [List.length_map]; exact hlb.le) al) ?_;intro v26 h70 N26 le69 hv26;refine ⟨_, kR.symm, ?_⟩;refine ⟨am, ?_⟩;refine DoV.freeze hv26 ar kR ?_;intro h71 le72 hv26;refine build_struct zc_25 pl_25 (qy ac Parts.nil) rfl ?_;refine ⟨am, ?_⟩;refine kB si_25 ac ai ad kR ab rfl kR.symm ?_;refine ⟨am, ?_⟩;exact ⟨_, zn, _, _, rfl, rfl, by have h9 := hv26; rw [← List.map_take, ← List.map_drop, ← List.map_cons, ← List.map_append] at h9; exact h9⟩
   ·
    refine qf fi_25_0 aa ?_;intro p20 hp20;refine ql sc_22 aa ?_;refine qX ag_74 aa ag ?_;refine qa zc_25 ?_;intro b10;refine ⟨am, ?_⟩;refine qc (clone_id hi al) ?_;rintro v22 h74 L_ le73 ⟨N22, rfl, hv22⟩;refine ⟨am, ?_⟩;refine qB sl_22 z_74 rfl ag ah aj ?_;intro v25 h76 le75 hv25;refine ⟨am, ?_⟩;refine DoCall.os kR (insert_id hv22 hv25 (by rw [List.length_map]; exact hlb.le) al) ?_;intro v26 h78 N26 le77 hv26;refine ⟨_, kR.symm, ?_⟩;refine ⟨am, ?_⟩;refine DoV.freeze hv26 ar kR ?_;intro h79 le80 hv26;refine build_struct zc_25 pl_25 (qy ac Parts.nil) rfl ?_;refine ⟨am, ?_⟩;refine kB si_25 ac ai ad kR ab rfl kR.symm ?_;refine ⟨am, ?_⟩;exact ⟨_, zn, _, _, rfl, rfl, by have h9 := hv26; rw [← List.map_take, ← List.map_drop, ← List.map_cons, ← List.map_append] at h9; exact h9⟩
   ·
    refine qf fi_25_0 aa ?_;intro p20 hp20;refine ql sc_22 aa ?_;refine qX ag_74 aa ag ?_;refine qa zc_25 ?_;intro b10;refine ⟨am, ?_⟩;refine qB sl_22 z_74 rfl ag ah aj ?_;intro v25 h82 le81 hv25;replace hi := hi.mono le81;refine ⟨am, ?_⟩;refine qc (clone_id hi al) ?_;rintro v22 h84 L_ le83 ⟨N22, rfl, hv22⟩;replace hv25 := hv25.mono le83;refine ⟨am, ?_⟩;refine DoCall.os kR (insert_id hv22 hv25 (by rw [List.length_map]; exact hlb.le) al) ?_;intro v26 h86 N26 le85 hv26;refine ⟨_, kR.symm, ?_⟩;refine ⟨am, ?_⟩;refine DoV.freeze hv26 ar kR ?_;intro h87 le88 hv26;refine build_struct zc_25 pl_25 (qy ac Parts.nil) rfl ?_;refine ⟨am, ?_⟩;refine kB si_25 ac ai ad kR ab rfl kR.symm ?_;refine ⟨am, ?_⟩;exact ⟨_, zn, _, _, rfl, rfl, by have h9 := hv26; rw [← List.map_take, ← List.map_drop, ← List.map_cons, ← List.map_append] at h9; exact h9⟩
  ·
   rintro s1 h89 L_ le90 ⟨b10, vi, rfl, rfl, hvi⟩;replace ho := ho.mono le90; replace hp := hp.mono le90; replace hp3 := hp3.mono le90; replace hp5 := hp5.mono le90;refine qg (qw fi_25_0 ?_);refine qg (qO sc_22 kH an ?_);refine qg (qm sl_22 aa ?_);refine qg (qd ?_);refine qL (fun s0 nn s' h' L' => ∃ (k : Nat) (v : Value) (N : Own) (ys : List (Op × Value)), s' = [(31, .int .i64 k)] ++ qR s0 [3, 5, 6, 8, 10, 30] ∧ nn = xs.length + 1 - k ∧ N ++ ((b10, .cells [vi, v].toArray 25 (0, 0)) :: (b6, .cells [.slice none 0 0, .slice none 0 0].toArray 25 (0, 0)) :: L) = L' ∧ k ≤ xs.length + 1 ∧ OS 61 11 v (ys.map opC) N ∧ RAll h' ys ∧ fst1 ys = ((fst1 xs).take i15 ++ o :: (fst1 xs).drop i15).take k) ⟨0, _, [], [], rfl, rfl, rfl, ?_⟩ zg zl zn ?_
   · exact ⟨Nat.zero_le _, OS.nil _ _, RAll.nil _, by simp [fst1]⟩
   rintro nn s1 h91 L_ le92 ⟨k, v, N, ys, rfl, rfl, rfl, hk, hv, hys, hfy⟩;replace ho := ho.mono le92; replace hp := hp.mono le92; replace hp3 := hp3.mono le92; replace hp5 := hp5.mono le92; replace hvi := hvi.mono le92;refine qg (lssB (fun c32 => ?_) (fun c32 => ?_))
   ·
    have hkl : k < xs.length + 1 := by omega
    have hyl : ys.length = k := by have h9 := congrArg List.length hfy; rw [fst1_len, List.length_take, hZl] at h9; omega
    refine qd ?_;refine qg (qg (qd ?_));refine qg (qg (qg (lssB (fun c49 => ?_) (fun c49 => ?_))))
    ·
     have hki : k < i15 := by omega
     obtain ⟨x, hx, hfx⟩ := fst1_get (xs := xs) (k := k) af;have hrx := ho.each x (List.mem_of_getElem? hx);have hZk : ((fst1 xs).take i15 ++ o :: (fst1 xs).drop i15)[k]? = some x.1 := by rw [ins_lt hki af]; exact hfx
     have hts := takeS hZk;refine qg (qd ?_);refine qD mixed [11] [0, 1, 2, 3, 4, 5, 6, 7, 8, 9, 10, 11] (_ :: []) ae (qq (zq kH) sub_nil) ?_;refine qr rfl rfl rfl (qw fi_25_1 ?_);refine qr rfl rfl rfl (qO (v := v) sc_23 kH rfl ?_);refine qr rfl rfl rfl (qf fi_25_1 aa ?_);intro p52 hp52;refine qr rfl rfl rfl (ql sc_23 aa ?_);refine qr rfl rfl rfl (qr rfl rfl rfl (qi (k := k) sl_23 ho.sl rfl hx ?_));intro p55 r55 hl55 hp55;refine qr rfl rfl rfl (qP ag_61 aa aa ?_);refine qj rfl rfl rfl ?_;refine qc (dag_twin (o := x.1) (pv := x.2) hrx.preds (by have := hps x (List.mem_of_getElem? hx); omega)) ?_;rintro v57 h94 L_ le93 ⟨⟨pv57, rfl, hpv57⟩, rfl⟩;replace hys := hys.mono le93;refine ⟨(qq (zq kH) sub_nil), ?_⟩;refine qj rfl rfl rfl ?_;refine qB sl_23 z_61 rfl ag ah aj ?_;intro v58 h96 le95 hv58;replace hys := hys.mono le95; replace hpv57 := hpv57.mono le95;refine ⟨(qq (zq kH) sub_nil), ?_⟩;refine qj rfl rfl rfl ?_;refine qp sl_23 sl_23 z_61 aa aa kR ar ?_;intro v59 N59 hv59;refine ⟨_, kR.symm, ?_⟩;refine ⟨(qq (zq kH) sub_nil), ?_⟩;refine qr rfl rfl rfl (qw fi_25_1 ?_);refine DoDr.drop rfl rfl rfl ?_;refine kB si_23 ac ai ad ((za kR).trans zm) ab rfl ((za kR).trans zm).symm ?_;refine qe zf ?_;refine qg (qA ak ?_);refine qg (qd ?_);exact back (m := _) ⟨k + 1, _, _, ys ++ [(x.1, pv57)], rfl, rfl, rfl, by omega, opC_snoc hv59, hys.snoc hpv57 hrx.wf, by rw [fst1_snoc, hfy, hts]⟩ af zg zl zn
    ·
     refine qg (qd ?_);refine qg (qg (qg (eqlB (fun c64 => ?_) (fun c64 => ?_))))
     ·
      have hki : k = i15 := by omega
      have hZk : ((fst1 xs).take i15 ++ o :: (fst1 xs).drop i15)[k]? = some o := by rw [hki]; exact ins_eq af
      have hts := takeS hZk;refine qg (qd ?_);refine qD mixed [7] [0, 1, 2, 3, 4, 5, 6, 7] (_ :: []) ae (qq (zq kH) sub_nil) ?_;refine qr rfl rfl rfl (qw fi_25_1 ?_);refine qr rfl rfl rfl (qO (v := v) sc_23 kH rfl ?_);refine qr rfl rfl rfl (qX ag_61 aa ag ?_);refine qj rfl rfl rfl ?_;refine qc (dag_twin (o := o) (pv := pv) hp af) ?_;rintro v68 h98 L_ le97 ⟨⟨pv68, rfl, hpv68⟩, rfl⟩;replace hys := hys.mono le97;refine ⟨(qq (zq kH) sub_nil), ?_⟩;refine qj rfl rfl rfl ?_;refine qB sl_23 z_61 rfl ag ah aj ?_;intro v69 h100 le99 hv69;replace hys := hys.mono le99; replace hpv68 := hpv68.mono le99;refine ⟨(qq (zq kH) sub_nil), ?_⟩;refine qj rfl rfl rfl ?_;refine qp sl_23 sl_23 z_61 aa aa kR ar ?_;intro v70 N70 hv70;refine ⟨_, kR.symm, ?_⟩;refine ⟨(qq (zq kH) sub_nil), ?_⟩;refine qr rfl rfl rfl (qw fi_25_1 ?_);refine DoDr.drop rfl rfl rfl ?_;refine kB si_23 ac ai ad ((za kR).trans zm) ab rfl ((za kR).trans zm).symm ?_;refine qe zf ?_;refine qg (qA ak ?_);refine qg (qd ?_);exact back (m := _) ⟨k + 1, _, _, ys ++ [(o, pv68)], rfl, rfl, rfl, by omega, opC_snoc hv70, hys.snoc hpv68 hw, by rw [fst1_snoc, hfy, hts]⟩ af zg zl zn
     ·
      have hki : i15 < k := by omega
      obtain ⟨x, hx, hfx⟩ := fst1_get (xs := xs) (k := k - 1) af;have hrx := ho.each x (List.mem_of_getElem? hx);have hZk : ((fst1 xs).take i15 ++ o :: (fst1 xs).drop i15)[k]? = some x.1 := by rw [ins_gt hki af]; exact hfx
      have hts := takeS hZk;refine qg (qd ?_);refine qD mixed [12] [0, 1, 2, 3, 4, 5, 6, 7, 8, 9, 10, 11, 12] (_ :: []) ae (qq (zq kH) sub_nil) ?_;refine qr rfl rfl rfl (qw fi_25_1 ?_);refine qr rfl rfl rfl (qO (v := v) sc_23 kH rfl ?_);refine qr rfl rfl rfl (qf fi_25_1 aa ?_);intro p36 hp36;refine qr rfl rfl rfl (ql sc_23 aa ?_);refine qr rfl rfl rfl (qr rfl rfl rfl (sub_i64 ak ?_));refine qr rfl rfl rfl (qi (k := k - 1) sl_23 ho.sl af hx ?_);intro p40 r40 hl40 hp40;refine qr rfl rfl rfl (qP ag_61 aa aa ?_);refine qj rfl rfl rfl ?_;refine qc (dag_twin (o := x.1) (pv := x.2) hrx.preds (by have := hps x (List.mem_of_getElem? hx); omega)) ?_;rintro v42 h102 L_ le101 ⟨⟨pv42, rfl, hpv42⟩, rfl⟩;replace hys := hys.mono le101;refine ⟨(qq (zq kH) sub_nil), ?_⟩;refine qj rfl rfl rfl ?_;refine qB sl_23 z_61 rfl ag ah aj ?_;intro v43 h104 le103 hv43;replace hys := hys.mono le103; replace hpv42 := hpv42.mono le103;refine ⟨(qq (zq kH) sub_nil), ?_⟩;refine qj rfl rfl rfl ?_;refine qp sl_23 sl_23 z_61 aa aa kR ar ?_;intro v44 N44 hv44;refine ⟨_, kR.symm, ?_⟩;refine ⟨(qq (zq kH) sub_nil), ?_⟩;refine qr rfl rfl rfl (qw fi_25_1 ?_);refine DoDr.drop rfl rfl rfl ?_;refine kB si_23 ac ai ad ((za kR).trans zm) ab rfl ((za kR).trans zm).symm ?_;refine qe zf ?_;refine qg (qA ak ?_);refine qg (qd ?_);exact back (m := _) ⟨k + 1, _, _, ys ++ [(x.1, pv42)], rfl, rfl, rfl, by omega, opC_snoc hv44, hys.snoc hpv42 hrx.wf, by rw [fst1_snoc, hfy, hts]⟩ af zg zl zn
   ·
    have hke : k = xs.length + 1 := by omega
    rw [List.take_of_length_le af] at hfy;have hyl : ys.length = xs.length + 1 := by have h9 := congrArg List.length hfy; rw [fst1_len, hZl, hfl] at h9; exact h9
    refine qd ?_;refine qg (qx (r := [vi, v]) ag_25 (zq kH) ab rfl ?_);refine qg (kB si_25 ac ai (by simp [Sl.one hvi, OS.one hv]) ((za ((zc kR).trans zw)).trans zm) ab rfl ((za ((zc kR).trans zw)).trans zm).symm ?_);refine qg (qd ?_);refine DoRet.freeze hv ar kR ?_;intro h105 le106 hv;replace hvi := hvi.mono le106; replace hys := hys.mono le106;refine DoRet.r2 (.cell rfl (qx ag_25 (kT kH) ab an rfl)) (.tmp rfl) (qh (zu (zu kS))) zl ?_;exact ⟨.inr ⟨hnm, i15, vi, v, ys, hlb, rfl, hvi, ⟨hv, hys⟩, hfy⟩, rfl⟩
 ·
  refine qg (qX ag_25 aa ag ?_);refine qg (kB si_25 ac ai (by simp [Sl.one hi, Sl.one ho.sl]) kR ab rfl kR.symm ?_);refine qg (qd ?_);refine DoRet.r2 (.cell rfl (qx ag_25 kH ab an rfl)) (.tmp rfl) (qh (zu kS)) zl ?_;exact ⟨.inl ⟨of_decide_eq_true hbm, rfl⟩, rfl⟩
end Go.Brd
namespace Go.Brd
open Go Go.Brd Go.Proofs
set_option linter.unusedVariables false
def prd (ops : List Op) (k : Nat) : List ID := ((ops[k]?).map (·.preds)).getD []
theorem prd_at {ops : List Op} {k : Nat} {o : Op} (h : ops[k]? = some o) : prd ops k = o.preds := by unfold prd; rw [h]; rfl
def idd (ids : List ID) (j : Nat) : ID := ids.getD j []
theorem idd_at {ids : List ID} {j : Nat} {x : ID} (h : ids[j]? = some x) : idd ids j = x := by unfold idd; rw [List.getD_eq_getElem?_getD, h]; rfl
theorem idd_get {ids : List ID} {j : Nat} (h : j < ids.length) : ids[j]? = some (idd ids j) := by unfold idd; rw [List.getD_eq_getElem?_getD, List.getElem?_eq_getElem h]; rfl
def bhs (ops : List Op) (ids : List ID) (i j : Nat) : List Nat := (List.range i).filter fun k => decide (idd ids j ∈ prd ops k)
def bhp (ops : List Op) (ids : List ID) (i t j : Nat) : List Nat := bhs ops ids i j ++ (if idd ids j ∈ (prd ops i).take t then [i] else [])
def behL (ops : List Op) (ids : List ID) (n i t : Nat) : List (List Nat) := (List.range n).map (bhp ops ids i t)
theorem behL_at {ops : List Op} {ids : List ID} {n i t j : Nat} (h : j < n) : (behL ops ids n i t)[j]? = some (bhp ops ids i t j) := by unfold behL; rw [List.getElem?_map, List.getElem?_range h]; rfl
theorem behL_len (ops : List Op) (ids : List ID) (n i t : Nat) : (behL ops ids n i t).length = n := by simp [behL]
theorem bhp_zero (ops : List Op) (ids : List ID) (i j : Nat) : bhp ops ids i 0 j = bhs ops ids i j := by unfold bhp; simp
theorem bhs_zero (ops : List Op) (ids : List ID) (j : Nat) : bhs ops ids 0 j = [] := rfl
theorem behL_init (ops : List Op) (ids : List ID) (n : Nat) : behL ops ids n 0 0 = List.replicate n [] := by
 unfold behL;have : (bhp ops ids 0 0) = fun _ => [] := by funext j; rw [bhp_zero, bhs_zero]
 rw [this]; simp [List.map_const']
theorem mem_take_succ {α : Type} [DecidableEq α] {l : List α} {t : Nat} {p x : α} (h : l[t]? = some p) : x ∈ l.take (t + 1) ↔ x ∈ l.take t ∨ x = p := by
 rw [List.take_add_one, h]; simp
theorem not_mem_take {α : Type} {l : List α} {t : Nat} {p : α} (hn : l.Nodup) (h : l[t]? = some p) : p ∉ l.take t := by
 intro hm;obtain ⟨k, hk, e⟩ := List.getElem_of_mem hm;rw [List.length_take] at hk;have h2 : l[k]? = some p := by rw [← e, List.getElem_take]; exact List.getElem?_eq_getElem af
 have := nodup_inj hn h2 h;omega
theorem behL_set {ops : List Op} {ids : List ID} {n i t a : Nat} {p : ID} (hn : ids.Nodup) (hl : ids.length = n) (ha : a < n) (hp : (prd ops i)[t]? = some p) (hpn : (prd ops i).Nodup) (hpa : ids[a]? = some p) :
 (behL ops ids n i t).set a (bhp ops ids i t a ++ [i]) = behL ops ids n i (t + 1) := by
 apply List.ext_getElem?;intro j;rcases Nat.lt_or_ge j n with hj | hj
 · rw [List.getElem?_set, behL_len, behL_at hj, behL_at hj]
   by_cases e : a = j
   · subst e
     rw [if_pos rfl, if_pos ha];unfold bhp;rw [idd_at hpa, if_neg (not_mem_take hpn hp), if_pos ((mem_take_succ hp).2 (.inr rfl)), List.append_nil]
   · rw [if_neg e]
     unfold bhp;have hne : idd ids j ≠ p := fun e2 => e (nodup_inj hn hpa (by rw [← e2]; exact idd_get af))
     have : idd ids j ∈ (prd ops i).take (t + 1) ↔ idd ids j ∈ (prd ops i).take t := by rw [mem_take_succ hp]; simp [hne]
     simp only [this]
 · rw [List.getElem?_eq_none (by simp [behL_len]; omega), List.getElem?_eq_none (by rw [behL_len]; omega)]
theorem behL_next (ops : List Op) (ids : List ID) (n i t : Nat) (ht : (prd ops i).length ≤ t) : behL ops ids n i t = behL ops ids n (i + 1) 0 := by
 unfold behL;congr 1
 funext j
 rw [bhp_zero];unfold bhp bhs;rw [List.range_succ, List.filter_append, List.take_of_length_le ht];congr 1
 by_cases h : idd ids j ∈ prd ops i <;> simp [h]
theorem bhs_mem {ops : List Op} {ids : List ID} {n j k : Nat} : k ∈ bhs ops ids n j ↔ k < n ∧ idd ids j ∈ prd ops k := by unfold bhs; simp
theorem bhs_nodup (ops : List Op) (ids : List ID) (n j : Nat) : (bhs ops ids n j).Nodup := List.Nodup.sublist List.filter_sublist List.nodup_range
def cnt (ops : List Op) (k : Nat) (P : List ID) : Nat := ((prd ops k).filter fun p => decide (p ∉ P)).length
theorem cnt_nil (ops : List Op) (k : Nat) : cnt ops k [] = (prd ops k).length := by unfold cnt; simp
theorem cnt_pos {ops : List Op} {k : Nat} {P : List ID} {x : ID} (h1 : x ∈ prd ops k) (h2 : x ∉ P) : 0 < cnt ops k P := by
 unfold cnt; rw [List.length_pos_iff_exists_mem]; exact ⟨x, List.mem_filter.2 ⟨h1, by simpa using h2⟩⟩
theorem cnt_snoc_not {ops : List Op} {k : Nat} {P : List ID} {x : ID} (h : x ∉ prd ops k) : cnt ops k (P ++ [x]) = cnt ops k P := by
 unfold cnt;congr 1
 apply List.filter_congr;intro p hp;have : p ≠ x := fun e => h (e ▸ hp)
 simp [this]
theorem cnt_snoc {ops : List Op} {k : Nat} {P : List ID} {x : ID} (hn : (prd ops k).Nodup) (h1 : x ∈ prd ops k) (h2 : x ∉ P) : cnt ops k (P ++ [x]) + 1 = cnt ops k P := by
 unfold cnt
 generalize prd ops k = l at hn h1
 induction l with
 | nil => simp at h1
 | cons a l ih =>
  have hn' := List.nodup_cons.1 hn;by_cases e : a = x
  · subst e
    have hrest : (l.filter fun p => decide (p ∉ P ++ [a])) = l.filter fun p => decide (p ∉ P) := by
     apply List.filter_congr;intro p hp;have : p ≠ a := fun e => hn'.1 (e ▸ hp)
     simp [this]
    rw [List.filter_cons_of_neg am, List.filter_cons_of_pos (by simpa using h2), hrest]; rfl
  · have hm : x ∈ l := by rcases List.mem_cons.1 h1 with h | h; exact absurd h.symm e; exact h
    have := ih hn'.2 hm;by_cases ha : a ∈ P
    · rw [List.filter_cons_of_neg (by simp [ha]), List.filter_cons_of_neg (by simp [ha])]; exact this
    · rw [List.filter_cons_of_pos (by simp [ha, e]), List.filter_cons_of_pos (by simp [ha])]
      simp only [List.length_cons]; omega
structure Kahn (ops : List Op) (ids : List ID) (n : Nat) (R : List Nat) (d q : Nat) (w : List Nat) : Prop where
 nd : R.Nodup
 lt : ∀ k ∈ R, k < n
 len : w.length = n
 wt : ∀ k, k < n → w[k]? = some (cnt ops k ((R.take (if ∃ j, R[d]? = some j ∧ k ∈ (bhs ops ids n j).take q then d + 1 else d)).map (idd ids)))
 rd : ∀ k, k < n → (k ∈ R ↔ w[k]? = some 0)
section
variable {ops : List Op} {ids : List ID} {n : Nat}
theorem Kahn.init {R w : List Nat} (hw : ∀ k, k < n → w[k]? = some (prd ops k).length) (hl : w.length = n) (hR : R = (List.range n).filter fun k => decide ((prd ops k).length = 0)) : Kahn ops ids n R 0 0 w := by
 subst hR;refine ⟨List.Nodup.sublist List.filter_sublist List.nodup_range, by simp; intro k hk _; exact hk, hl, fun k hk => ?_, fun k hk => ?_⟩
 · rw [hw k hk, if_neg am, List.take_zero, List.map_nil, cnt_nil]
 · rw [hw k hk]; simp [hk]
theorem Kahn.step {R w : List Nat} {d q j k c : Nat} (h : Kahn ops ids n R d q w) (hn : ids.Nodup) (hl : ids.length = n) (hpn : ∀ k, k < n → (prd ops k).Nodup) (hj : R[d]? = some j) (hk : (bhs ops ids n j)[q]? = some k) (hc : w[k]? = some c) :
 1 ≤ c ∧ k < n ∧ Kahn ops ids n (if c - 1 = 0 then R ++ [k] else R) d (q + 1) (w.set k (c - 1)) := by
 have hkm := bhs_mem.1 (List.mem_of_getElem? hk);have hkn := hkm.1;have hkq : k ∉ (bhs ops ids n j).take q := not_mem_take (bhs_nodup _ _ _ _) hk
 have hno : ¬ ∃ j', R[d]? = some j' ∧ k ∈ (bhs ops ids n j').take q := by
  rintro ⟨j', e, hm⟩; rw [hj] at e; cases e; exact hkq hm
 have hwk := h.wt k hkn;rw [if_neg hno, hc] at hwk;have hcc : c = cnt ops k ((R.take d).map (idd ids)) := Option.some.inj hwk;have hdl := (List.getElem?_eq_some_iff.1 hj).1;have hjn := h.lt j (List.mem_of_getElem? hj)
 have hjP : idd ids j ∉ (R.take d).map (idd ids) := by
  intro hm;obtain ⟨j2, hj2, e⟩ := List.mem_map.1 hm;have hj2n := h.lt j2 (List.mem_of_mem_take hj2);have : j2 = j := nodup_inj hn (idd_get (ids := ids) af) (by rw [e]; exact idd_get af);subst this;exact not_mem_take h.nd hj hj2
 have htk : R.take (d + 1) = R.take d ++ [j] := by rw [List.take_add_one, hj]; rfl
 have hcs := cnt_snoc (hpn k hkn) hkm.2 hjP;have hpos : 1 ≤ c := by rw [hcc]; exact cnt_pos hkm.2 hjP
 have hcnt : cnt ops k ((R.take (d + 1)).map (idd ids)) = c - 1 := by rw [htk, List.map_append, List.map_cons, List.map_nil]; omega
 have hkR : k ∉ R := fun hm => by
  have := (h.rd k hkn).1 hm; rw [hc] at this; simp at this; omega
 refine ⟨hpos, hkn, ?_⟩;obtain ⟨R', hR'⟩ : ∃ R', (if c - 1 = 0 then R ++ [k] else R) = R' := ⟨_, rfl⟩;rw [hR']
 have hget : R'[d]? = some j := by
  rw [← hR']; split
  · rw [List.getElem?_append_left hdl]; exact hj
  · exact hj
 have htake : ∀ m, m ≤ d + 1 → R'.take m = R.take m := fun m hm => by
  rw [← hR']; split
  · rw [List.take_append_of_le_length af]
  · rfl
 refine ⟨?_, ?_, by rw [List.length_set]; exact h.len, fun x hx => ?_, fun x hx => ?_⟩
 · rw [← hR']; split
   · rw [List.nodup_append]
     refine ⟨h.nd, by simp, fun a ha b hb => ?_⟩;have : b = k := by simpa using hb
     subst this; intro e; subst e; exact hkR ha
   · exact h.nd
 · rw [← hR']; split
   · intro x hx
     rcases List.mem_append.1 hx with hx | hx
     · exact h.lt x hx
     · have : x = k := by simpa using hx
       omega
   · exact h.lt
 · have hiff : (∃ j', R'[d]? = some j' ∧ x ∈ (bhs ops ids n j').take (q + 1)) ↔ (∃ j', R[d]? = some j' ∧ x ∈ (bhs ops ids n j').take q) ∨ x = k := by
    constructor
    · rintro ⟨j', e, hm⟩
      rw [hget] at e; cases e;rcases (mem_take_succ hk).1 hm with h1 | h1
      · exact .inl ⟨j, hj, h1⟩
      · exact .inr h1
    · rintro (⟨j', e, hm⟩ | e)
      · rw [hj] at e; cases e
        exact ⟨j, hget, (mem_take_succ hk).2 (.inl hm)⟩
      · exact ⟨j, hget, (mem_take_succ hk).2 (.inr e)⟩
   by_cases e : x = k
   · subst e
     rw [List.getElem?_set_self (by rw [h.len]; exact hx), if_pos (hiff.2 (.inr rfl)), htake _ (Nat.le_refl _), hcnt]
   · rw [List.getElem?_set_ne (fun e2 => e e2.symm), h.wt x hx]
     congr 2
     by_cases hb : ∃ j', R[d]? = some j' ∧ x ∈ (bhs ops ids n j').take q
     · rw [if_pos hb, if_pos (hiff.2 (.inl hb)), htake _ (Nat.le_refl _)]
     · rw [if_neg hb, if_neg (fun h2 => (hiff.1 h2).elim hb e), htake _ af]
 · by_cases e : x = k
   · subst e
     rw [List.getElem?_set_self (by rw [h.len]; exact hx), ← hR'];by_cases hz : c - 1 = 0
     · rw [if_pos hz]; simp [hz]
     · rw [if_neg hz]; simp only [Option.some.injEq]; exact ⟨fun hm => absurd hm hkR, fun h2 => absurd h2 hz⟩
   · rw [List.getElem?_set_ne (fun e2 => e e2.symm), ← h.rd x hx, ← hR']
     split
     · simp [e]
     · rfl
theorem Kahn.next {R w : List Nat} {d q j : Nat} (h : Kahn ops ids n R d q w) (hj : R[d]? = some j) (hq : (bhs ops ids n j).length ≤ q) : Kahn ops ids n R (d + 1) 0 w := by
 refine ⟨h.nd, h.lt, h.len, fun k hk => ?_, h.rd⟩;rw [h.wt k hk, if_neg (by simp : ¬ ∃ j', R[d + 1]? = some j' ∧ k ∈ (bhs ops ids n j').take 0)];by_cases hb : ∃ j', R[d]? = some j' ∧ k ∈ (bhs ops ids n j').take q
 · rw [if_pos hb]
 · rw [if_neg hb]
   have hnot : idd ids j ∉ prd ops k := fun hm => hb ⟨j, hj, by rw [List.take_of_length_le hq]; exact bhs_mem.2 ⟨hk, hm⟩⟩
   have htk : R.take (d + 1) = R.take d ++ [j] := by rw [List.take_add_one, hj]; rfl
   rw [htk, List.map_append, List.map_cons, List.map_nil, cnt_snoc_not hnot]
theorem Kahn.all {R w : List Nat} {d : Nat} {f : ID → Nat} (h : Kahn ops ids n R d 0 w) (hd : R.length ≤ d) (hl : ids.length = n) (hlo : ops.length = n) (hc : ∀ o ∈ ops, ∀ p ∈ o.preds, p ∈ ids) (hf : ∀ (k : Nat) (o : Op) (i : ID), ops[k]? = some o → ids[k]? = some i → ∀ p ∈ o.preds, f p < f i) : R.length = n := by
 have hall : ∀ m k, k < n → f (idd ids k) < m → k ∈ R := by
  intro m
  induction m with
  | zero => intro k _ h0; omega
  | succ m ih =>
   intro k hk hfk;rw [h.rd k hk, h.wt k hk, if_neg am, List.take_of_length_le hd];congr 1
   unfold cnt;rw [List.length_eq_zero_iff, List.filter_eq_nil_iff];intro p hp;simp only [decide_eq_true_eq, Classical.not_not];have hko : ops[k]? = some ops[k] := List.getElem?_eq_getElem af;rw [prd_at hko] at hp;have hpi := hc _ (List.getElem_mem af) p hp;obtain ⟨j, hj, e⟩ := List.getElem_of_mem hpi;have hj' : ids[j]? = some p := by rw [List.getElem?_eq_getElem hj, e]
   have := hf k _ _ hko (idd_get af) p hp;have hjR := ih j af (by rw [idd_at hj']; omega);exact List.mem_map.2 ⟨j, hjR, idd_at hj'⟩
 have h1 := nodup_le n R h.nd h.lt
 have h2 : n ≤ R.length := by
  have := nodup_le R.length (List.range n) List.nodup_range;rcases Nat.lt_or_ge R.length n with hlt | hge
  · exfalso
    have hsub : ∀ k, k < n → k ∈ R := fun k hk => hall (f (idd ids k) + 1) k hk (Nat.lt_succ_self _)
    have hlen : ∀ (m : Nat) (R : List Nat), (∀ k, k < m → k ∈ R) → m ≤ R.length := by
     intro m
     induction m with
     | zero => intro R _; exact Nat.zero_le _
     | succ m ih =>
      intro R hR;have hm := hR m (Nat.lt_succ_self m);have := ih (R.erase m) (fun k hk => (List.mem_erase_of_ne af).2 (hR k af));rw [List.length_erase_of_mem hm] at this;have hpos : 0 < R.length := List.length_pos_of_mem hm;omega
    have := hlen n R hsub;omega
  · exact hge
 omega
end
theorem flat_take {α : Type} : ∀ {Ns : List (List α)} {j : Nat} {N : List α}, Ns[j]? = some N → Ns.flatten.Perm (N ++ (Ns.eraseIdx j).flatten)
 | [], _, _, h => by simp at h
 | A :: r, 0, N, h => by simp at h; subst h; exact List.Perm.refl _
 | A :: r, j + 1, N, h => by
  simp only [List.getElem?_cons_succ] at h;simp only [List.flatten_cons, List.eraseIdx_cons_succ];exact (List.Perm.append_left A (flat_take h)).trans (List.perm_append_comm_assoc _ _ _)
theorem flat_put {α : Type} : ∀ {Ns : List (List α)} {j : Nat} {N' : List α}, j < Ns.length → (Ns.set j N').flatten.Perm (N' ++ (Ns.eraseIdx j).flatten)
 | [], _, _, h => by simp at h
 | A :: r, 0, N', _ => List.Perm.refl _
 | A :: r, j + 1, N', h => by
  simp only [List.set_cons_succ, List.flatten_cons, List.eraseIdx_cons_succ];exact (List.Perm.append_left A (flat_put (by simpa using h))).trans (List.perm_append_comm_assoc _ _ _)
end Go.Brd
namespace Go.Brd
open Go Go.Brd Go.Proofs
set_option linter.unusedVariables false
theorem sc_159 : scalar Tryz.prog 159 = true := by kernel_rfl
theorem si_159 : sizeIs Tryz.prog 159 1 = true := by kernel_rfl
theorem sl_160 : sliceOf Tryz.prog 160 159 1 = true := by kernel_rfl
theorem un_159 : Tryz.prog.underlying 159 = some (.slice 3) := by kernel_rfl
theorem un_160 : Tryz.prog.underlying 160 = some (.slice 159) := by kernel_rfl
theorem z_159 : zeroIs Tryz.prog 159 1 = true := by kernel_rfl
theorem zv_159 : zeroV Tryz.prog 159 = some (.slice none 0 0) := by kernel_rfl
theorem zv_3 : zeroV Tryz.prog 3 = some (.int .i64 0) := by kernel_rfl
theorem beh_upd {bh : List (Value × List Nat)} {Ns : List Own} {bl bl' : List (List Nat)} {a : Nat} {p : Value × List Nat} {v : Value} {is : List Nat} {N' : Own} (hbl : bh.map Prod.snd = bl) (hNl : Ns.length = bl.length) (hoN : ∀ (j : Nat) (p : Value × List Nat) (N : Own), bh[j]? = some p → Ns[j]? = some N → OS 3 1 p.1 (p.2.map natC) N)
 (hp : bh[a]? = some p) (hv : OS 3 1 v (is.map natC) N') (hbl' : bl.set a is = bl') : (bh.set a (v, is)).map Prod.snd = bl' ∧ (Ns.set a N').length = bl'.length ∧ ∀ (j : Nat) (p : Value × List Nat) (N : Own), (bh.set a (v, is))[j]? = some p → (Ns.set a N')[j]? = some N → OS 3 1 p.1 (p.2.map natC) N := by
 refine ⟨by rw [List.map_set, hbl, hbl'], by rw [List.length_set, hNl, ← hbl', List.length_set], fun j q N hq hN => ?_⟩;have hal := (List.getElem?_eq_some_iff.1 hp).1;by_cases e : a = j
 · subst e
   rw [List.getElem?_set_self hal] at hq;have hNa : a < Ns.length := by rw [List.getElem?_set] at hN; split at hN; split at hN; assumption; cases hN; exact absurd rfl aa
   rw [List.getElem?_set_self hNa] at hN;cases hq; cases hN; exact hv
 · rw [List.getElem?_set_ne e] at hq hN; exact hoN j q N hq hN
theorem natC_set {w : List Nat} {k c : Nat} : (w.map natC).set k [.int .i64 ((c : Nat) : Int)] = (w.set k c).map natC := by rw [List.map_set]; rfl
set_option maxHeartbeats 4000000 in
theorem dag_shape {c : World} {h : GH} {L : Own} {iv ov : Value} {ids : List ID} {xs : List (Op × Value)} (hi : RIds h iv ids) (ho : ROps h ov xs) (hr : risB ids = true) (hl : ids.length = xs.length) (h60 : xs.length ≤ 60) (hc : ∀ o ∈ fst1 xs, ∀ p ∈ o.preds, p ∈ ids) (hpr : ∀ x ∈ xs, risB x.1.preds = true ∧ x.1.preds.length ≤ 4) (hf : ∃ f : ID → Nat, ∀ (k : Nat) (o : Op) (i : ID), (fst1 xs)[k]? = some o → ids[k]? = some i → ∀ p ∈ o.preds, f p < f i):
 Fun Tryz.prog c 57 #[gV iv ov] h L (fun u _ L' => u = .int .i64 0 ∧ L = L') := by
 have h32 := hi.len32;have hfl := fst1_len xs;have hidn := risB_nodup hr
 have hprn : ∀ k, k < xs.length → (prd (fst1 xs) k).Nodup := fun k hk => by
  obtain ⟨y, hy, hfy⟩ := fst1_get hk;rw [prd_at hfy]; exact risB_nodup (hpr y (List.mem_of_getElem? hy)).1
 refine zS (N := 133) (args := [gV iv ov]) Tryz.func57 ?_;refine qg (box_at rfl ?_);intro p1 h2 le1 hp1;replace hi := hi.mono le1; replace ho := ho.mono le1;refine qg (qd ?_);refine qg (qd ?_);refine qL (fun s0 nn s' h' L' => ∃ (k : Nat), s' = [(3, .int .i64 k)] ++ qR s0 [1] ∧ nn = ids.length - k ∧ L = L' ∧ 1 ≤ k) ⟨1, rfl, rfl, rfl, ?_⟩ zg zl zn ?_
 · exact Nat.le_refl _
 rintro nn s1 h3 L_ le4 ⟨k, rfl, rfl, rfl, hk⟩;replace hi := hi.mono le4; replace ho := ho.mono le4; replace hp1 := hp1.mono le4;refine qg (qg (qf fi_25_0 aa ?_));intro p17 hp17;refine qg (ql sc_22 aa ?_);refine qg (qm sl_22 aa ?_);refine qg (lssB (fun c20 => ?_) (fun c20 => ?_))
 ·
  have hkl : k < ids.length := by omega
  obtain ⟨y, hy⟩ := qE (l := ids) (k := k - 1) af;obtain ⟨z, hz⟩ := qE (l := ids) (k := k) hkl;have hlt := ris_lt hr (show k - 1 < k by omega) hy hz;have hy32 : (idC y).length = 32 := by rw [idC_length]; exact h32 y (List.mem_of_getElem? hy)
  have hz32 : (idC z).length = 32 := by rw [idC_length]; exact h32 z (List.mem_of_getElem? hz)
  refine qd ?_;refine qD mixed [] [0, 1, 2, 3, 4, 5, 6, 7, 8, 9, 10, 11, 12] [] ae sub_nil ?_;refine qr rfl rfl rfl (qf fi_25_0 aa ?_);intro p23 hp23;refine qr rfl rfl rfl (ql sc_22 aa ?_);refine qr rfl rfl rfl (qr rfl rfl rfl (sub_i64 ak ?_));refine qr rfl rfl rfl (qi (k := k - 1) sl_22 aa af hy ?_);intro p27 r27 hl27 hp27;refine qr rfl rfl rfl (qP ag_74 aa aa ?_);refine qr rfl rfl rfl (qf fi_25_0 aa ?_);intro p29 hp29;refine qr rfl rfl rfl (ql sc_22 aa ?_);refine qr rfl rfl rfl (qr rfl rfl rfl (qi (k := k) sl_22 aa rfl hz ?_));intro p32 r32 hl32 hp32;refine qr rfl rfl rfl (qP ag_74 aa aa ?_);refine qj rfl rfl rfl ?_;refine qc (digest_cmp (x := y) (y := z) hy32 hz32) ?_;rintro v34 h6 L_ le5 ⟨rfl, rfl⟩;refine ⟨am, ?_⟩;refine qr rfl rfl rfl (geqB (fun c35 => ?_) (fun c35 => ?_))
  ·
   omega
  ·
   refine qe zf ?_;refine qg (qg (qA ak ?_));refine qg (qd ?_);exact back (m := _) ⟨k + 1, rfl, rfl, rfl, by omega⟩ af zg zl zn
 ·
  refine qd ?_;refine qg (qf fi_25_1 aa ?_);intro p36 hp36;refine qg (ql sc_23 aa ?_);refine qg (qm sl_23 (ROps.sl aa) ?_);refine qg (make_own (k := xs.length) un_159 (zero1_of zv_3 z_3 si_3 rfl) rfl ao rfl af ?_);intro v39 N39 hv39;refine qg (qd ?_);refine qg (qf fi_25_1 aa ?_);intro p40 hp40;refine qg (ql sc_23 aa ?_);refine qg (qm sl_23 (ROps.sl aa) ?_);refine qg (make_own (k := xs.length) un_160 (zero1_of zv_159 z_159 si_159 rfl) rfl ao rfl af ?_);intro v43 N43 hv43;refine qg (qd ?_);refine qg (qd ?_);refine qg (qf fi_25_1 aa ?_);intro p44 hp44;refine qg (ql sc_23 aa ?_);refine qg (qm sl_23 (ROps.sl aa) ?_);refine qg (qd ?_);refine qL (fun s0 nn s' h' L' => ∃ (i : Nat) (vr : Value) (Nr : Own) (Nw : Own) (Nb : Own) (bh : List (Value × List Nat)) (Ns : List Own), s' = [(6, vr), (47, .int .i64 i)] ++ qR s0 [1, 4, 5, 45, 46] ∧ nn = xs.length - i ∧ Nr ++ (Ns.flatten ++ (Nb ++ (Nw ++ L))) = L' ∧ i ≤ xs.length ∧ OS 3 1 v39 ((((fst1 xs).map fun (o : Op) => o.preds.length).take i ++ (List.replicate xs.length 0).drop i).map natC) Nw ∧ OS 3 1 vr (((List.range i).filter fun k => decide ((prd (fst1 xs) k).length = 0)).map natC) Nr ∧ OS 159 1 v43 (bh.map fun (p : Value × List Nat) => [p.1]) Nb ∧ bh.map Prod.snd = behL (fst1 xs) ids xs.length i 0 ∧ Ns.length = (behL (fst1 xs) ids xs.length i 0).length ∧ (∀ (j : Nat) (p : Value × List Nat) (N : Own), bh[j]? = some p → Ns[j]? = some N → OS 3 1 p.1 (p.2.map natC) N)) ⟨0, _, [], N39, N43, List.replicate xs.length (.slice none 0 0, []), List.replicate xs.length [], rfl, rfl, by simp, ?_⟩ zg zl zn ?_
  · refine ⟨Nat.zero_le _, ?_, OS.nil _ _, ?_, ?_, ?_, ?_⟩
    · simpa [natC] using hv39
    · simpa using hv43
    · rw [behL_init]; simp
    · rw [behL_init]; simp
    · intro j p N hp hN
      have h1 := List.eq_of_mem_replicate (List.mem_of_getElem? hp);have h2 := List.eq_of_mem_replicate (List.mem_of_getElem? hN);subst h1; subst h2; exact OS.nil _ _
  rintro nn s1 h7 L_ le8 ⟨i, vr, Nr, Nw, Nb, bh, Ns, rfl, rfl, rfl, hi2, hvw, hvr, hvb, hbl, hNl, hoN⟩;replace hi := hi.mono le8; replace ho := ho.mono le8; replace hp1 := hp1.mono le8;refine qg (lssB (fun c48 => ?_) (fun c48 => ?_))
  ·
   have hil : i < xs.length := by omega
   obtain ⟨x, hx, hfx⟩ := fst1_get hil;have hrx := ho.each x (List.mem_of_getElem? hx);have hpp := hrx.preds;have hpx := hpr x (List.mem_of_getElem? hx);have hprd := prd_at hfx;have hpnd := risB_nodup hpx.1;have hp32 := hpp.len32;refine qd ?_;refine qg (qg (qi (k := i) sl_23 ho.sl rfl hx ?_));intro p50 r50 hl50 hp50;refine qg (qP ag_61 aa aa ?_);refine qg (qa zc_61 ?_);intro b8;refine qg (qg (kB (l' := opC2 x.1 x.2) si_61 ac ai (opC_one2 (Sl.one hpp)) kR ab rfl kR.symm ?_));refine qd ?_;refine qg (qw fi_61_1 ?_);refine qg (qO sc_22 kH an ?_);refine qg (qm sl_22 aa ?_);refine qg (qd ?_);refine qL (fun s0 nn s' h' L' => ∃ (t : Nat) (Nb2 : Own) (bh2 : List (Value × List Nat)) (Ns2 : List Own), s' = [(55, .int .i64 t)] ++ qR s0 [1, 4, 5, 6, 7, 8, 45, 46, 47, 53, 54] ∧ nn = x.1.preds.length - t ∧ (b8, .cells (opC2 x.1 x.2).toArray 61 (0, 0)) :: (Nr ++ (Ns2.flatten ++ (Nb2 ++ (Nw ++ L)))) = L' ∧ t ≤ x.1.preds.length ∧ OS 159 1 v43 (bh2.map fun (p : Value × List Nat) => [p.1]) Nb2 ∧ bh2.map Prod.snd = behL (fst1 xs) ids xs.length i t ∧ Ns2.length = (behL (fst1 xs) ids xs.length i t).length ∧ (∀ (j : Nat) (p : Value × List Nat) (N : Own), bh2[j]? = some p → Ns2[j]? = some N → OS 3 1 p.1 (p.2.map natC) N)) ⟨0, Nb, bh, Ns, rfl, rfl, rfl, ?_⟩ zg zl zn ?_
   · exact ⟨Nat.zero_le _, hvb, hbl, hNl, hoN⟩
   rintro nn s1 h9 L_ le10 ⟨t, Nb2, bh2, Ns2, rfl, rfl, rfl, ht, hvb, hbl, hNl, hoN⟩;replace hi := hi.mono le10; replace ho := ho.mono le10; replace hp1 := hp1.mono le10; replace hpp := hpp.mono le10;refine qg (lssB (fun c56 => ?_) (fun c56 => ?_))
   ·
    have htl : t < x.1.preds.length := by omega
    obtain ⟨p, hp⟩ := qE htl;have hpi := hc x.1 (List.mem_of_getElem? hfx) p (List.mem_of_getElem? hp);have hpc : (idC p).length = 32 := by rw [idC_length]; exact hp32 p (List.mem_of_getElem? hp)
    refine qd ?_;refine qg (qi (k := t) sl_22 aa rfl hp ?_);intro p57 r57 hl57 hp57;refine qg (qP ag_74 aa aa ?_);refine qg (qa zc_74 ?_);intro b10;refine qg (kB (l' := idC p) si_74 ac hpc (idC_one _) kR ab (over_all (by rw [hpc, List.length_replicate])) kR.symm ?_);refine qd ?_;refine qg (qX ag_25 aa ag ?_);refine qg (qx (r := idC p) ag_74 kH (by rw [hpc]; decide) (by rw [List.drop_zero, List.take_of_length_le (by rw [hpc]; decide)]) ?_);refine qg (qc (dag_find hi hr (Sl.one ho.sl) hpc) ?_);rintro v62 h12 L_ le11 ⟨⟨a, rfl, hlb⟩, rfl⟩;rw [decide_eq_true hpi];have hap := (hlb.mem hr).1 hpi;have han := (List.getElem?_eq_some_iff.1 hap).1;have hbll := congrArg List.length hbl;rw [List.length_map, behL_len] at hbll;obtain ⟨bp, hbp⟩ := qE (l := bh2) (k := a) af;rw [behL_len] at hNl;obtain ⟨Na, hNa⟩ := qE (l := Ns2) (k := a) af;have hoa := hoN a bp Na hbp hNa
    have hbpe : bp.2 = bhp (fst1 xs) ids i t a := by
     have h9 := congrArg (fun l => l[a]?) hbl;simp only [List.getElem?_map, hbp, Option.map_some] at h9;rw [behL_at af] at h9; exact Option.some.inj h9
    have hbset := behL_set (ops := fst1 xs) (i := i) hidn hl (by omega : a < xs.length) (by rw [hprd]; exact hp) (by rw [hprd]; exact hpnd) hap;rw [← hbpe] at hbset;have hbsm : bp.2.length ≤ 61 := by rw [hbpe]; unfold bhp bhs; rw [List.length_append]; have h8 := List.length_filter_le (fun k => decide (idd ids a ∈ prd (fst1 xs) k)) (List.range i); rw [List.length_range] at h8; split <;> (simp; omega)
    refine qg (qg (qg (qg (qg (qd ?_)))));refine qg (qg (not_tt ?_));refine qd ?_;refine qg (qg (qg (qg (qg (index_os (k := a) sl_160 aa rfl al ?_)))));intro p71 hp71;refine qg (load_os1 sc_159 aa aa (fun e he => (kT (kT (zq (zq (List.mem_append_left _ he)))))) (map_get (f := fun (p : Value × List Nat) => [p.1]) hbp) an ?_);refine qg (qg (qB sl_159 z_3 rfl ag ah aj ?_));intro v74 h14 le13 hv74;refine qg (qp sl_159 sl_159 z_3 hoa hv74 ((((zc ((zc ((za kR).trans (List.perm_append_comm_assoc _ _ _))).trans zm.symm)).trans zm.symm)).trans ((List.Perm.append_right _ (flat_take hNa)).trans (List.Perm.of_eq (List.append_assoc _ _ _)))) ar ?_);intro v75 N75 hv75;have hv76 : OS 3 1 v75 ((bp.2 ++ [i]).map natC) N75 := by rw [List.map_append]; exact hv75
    obtain ⟨hbl2, hNl2, hoN2⟩ := beh_upd hbl (by rw [behL_len]; exact hNl) hoN hbp hv76 hbset;refine ⟨_, (List.Perm.of_eq (List.append_assoc _ _ _).symm).trans ((List.Perm.append_right _ (flat_put af).symm).trans (((zc ((zc ((za kR).trans (List.perm_append_comm_assoc _ _ _))).trans zm.symm)).trans zm.symm)).symm), ?_⟩;refine qg (index_os (k := a) sl_160 aa rfl al ?_);intro p76 hp76;refine qg (store_os si_159 (OS.cells hv75) ai (one1 (OS.one hv75)) aa hvb (map_get (f := fun (p : Value × List Nat) => [p.1]) hbp) ((zc ((zc ((za ((za kR).trans (List.perm_append_comm_assoc _ _ _))).trans (List.perm_append_comm_assoc _ _ _))).trans zm.symm)).trans zm.symm) ab (by exact Eq.refl [_]) ?_);clear hvb; intro M15 hvb; refine ⟨_, ((zc ((zc ((za ((za kR).trans (List.perm_append_comm_assoc _ _ _))).trans (List.perm_append_comm_assoc _ _ _))).trans zm.symm)).trans zm.symm).symm, ?_⟩;refine qd ?_;refine qg (qA ak ?_);refine qg (qd ?_);exact back (m := _) ⟨t + 1, _, bh2.set a (v75, bp.2 ++ [i]), Ns2.set a N75, rfl, rfl, rfl, by omega, by rw [List.map_set]; exact hvb, hbl2, hNl2, hoN2⟩ af (qh (zu (zv (List.Sublist.append_left (List.Sublist.append_left (List.Sublist.append_left (List.Sublist.append_left kS _) _) _) _)))) zl zn
   ·
    have hte : t = x.1.preds.length := by omega
    subst hte;have hPi : ((fst1 xs).map fun (o : Op) => o.preds.length)[i]? = some x.1.preds.length := map_get (f := fun (o : Op) => o.preds.length) hfx;have hwl : ((fst1 xs).map fun (o : Op) => o.preds.length).length = (List.replicate xs.length 0).length := by simp [fst1]
    have htd := td_set hPi hwl;have hold : ((((fst1 xs).map fun (o : Op) => o.preds.length).take i ++ (List.replicate xs.length 0).drop i))[i]? = some 0 := by rw [td_get (by rw [hwl, List.length_replicate]; omega), List.getElem?_replicate, if_pos hil]
    rw [behL_next _ _ _ _ _ (by rw [hprd]; exact Nat.le_refl _)] at hbl hNl;have hwln : ((((fst1 xs).map fun (o : Op) => o.preds.length).take i ++ (List.replicate xs.length 0).drop i)).length = xs.length := by simp [fst1]; omega
    refine qd ?_;refine qg (qg (qg (qw fi_61_1 ?_)));refine qg (qO sc_22 kH an ?_);refine qg (qm sl_22 aa ?_);refine qg (index_os (k := i) sl_159 aa rfl al ?_);intro p83 hp83;refine qg (store_os si_3 ac ai ad aa hvw (map_get hold) ((zc ((za ((za ((za kR).trans (List.perm_append_comm_assoc _ _ _))).trans (List.perm_append_comm_assoc _ _ _))).trans (List.perm_append_comm_assoc _ _ _))).trans zm.symm) ab (by exact Eq.refl [_]) ?_);clear hvw; intro M16 hvw; refine ⟨_, ((zc ((za ((za ((za kR).trans (List.perm_append_comm_assoc _ _ _))).trans (List.perm_append_comm_assoc _ _ _))).trans (List.perm_append_comm_assoc _ _ _))).trans zm.symm).symm, ?_⟩;rw [natC_set, htd] at hvw;have hnew : ((((fst1 xs).map fun (o : Op) => o.preds.length).take (i + 1) ++ (List.replicate xs.length 0).drop (i + 1)))[i]? = some x.1.preds.length := by rw [← htd]; exact List.getElem?_set_self af
    refine qd ?_;refine qg (qg (qg (index_os (k := i) sl_159 aa rfl (by rw [List.length_map, ← htd, List.length_set]; omega) ?_)));intro p86 hp86;refine qg (load_os1 sc_3 aa aa (fun e he => (kT (zq (zq (zq (List.mem_append_left _ he)))))) (map_get hnew) an ?_);refine qg (eqlB (fun c88 => ?_) (fun c88 => ?_))
    ·
     refine qd ?_;refine qg (qg (qg (qB sl_159 z_3 rfl ag ah aj ?_)));intro v91 h18 le17 hv91;refine qg (qp sl_159 sl_159 z_3 aa aa ((zc kR).trans zm.symm) (by simp; have h8 := List.length_filter_le (fun k => decide (prd (fst1 xs) k = [])) (List.range i); rw [List.length_range] at h8; omega) ?_);intro v92 N92 hv92;refine ⟨_, ((zc kR).trans zm.symm).symm, ?_⟩;refine qg (qd ?_);refine qg (qA ak ?_);refine qg (qd ?_)
     exact back (m := _) ⟨i + 1, _, N92, _, Nb2, bh2, Ns2, rfl, rfl, rfl, by omega, hvw, by
      have hz : (prd (fst1 xs) i).length = 0 := by rw [hprd]; omega
      rw [List.range_succ, List.filter_append, List.filter_cons_of_pos (by simpa using hz), List.filter_nil, List.map_append]; exact hv92, hvb, hbl, hNl, hoN⟩ af (qh (zu (List.Sublist.append_left (List.Sublist.append_left (List.Sublist.append_left (List.Sublist.append_left kS _) _) _) _))) zl zn
    ·
     refine qd ?_;refine qg (qA ak ?_);refine qg (qd ?_)
     exact back (m := _) ⟨i + 1, vr, Nr, _, Nb2, bh2, Ns2, rfl, rfl, rfl, by omega, hvw, by
      have hz : ¬ (prd (fst1 xs) i).length = 0 := by rw [hprd]; omega
      rw [List.range_succ, List.filter_append, List.filter_cons_of_neg (by simpa using hz), List.filter_nil, List.append_nil]; exact hvr, hvb, hbl, hNl, hoN⟩ af (qh (zu (List.Sublist.append_left (List.Sublist.append_left (List.Sublist.append_left (List.Sublist.append_left kS _) _) _) _))) zl zn
  ·
   have hie : i = xs.length := by omega
   subst hie;refine qd ?_;refine qg (qd ?_);refine qL (fun s0 nn s' h' L' => ∃ (d : Nat) (R : List Nat) (w : List Nat) (vr2 : Value) (Nr2 : Own) (Nw2 : Own), s' = [(6, vr2), (13, .int .i64 d)] ++ qR s0 [1, 4, 5] ∧ nn = xs.length + 1 - d ∧ Nr2 ++ (Ns.flatten ++ (Nb ++ (Nw2 ++ L))) = L' ∧ Kahn (fst1 xs) ids xs.length R d 0 w ∧ d ≤ R.length ∧ OS 3 1 v39 (w.map natC) Nw2 ∧ OS 3 1 vr2 (R.map natC) Nr2) ⟨0, ((List.range xs.length).filter fun k => decide ((prd (fst1 xs) k).length = 0)), (((fst1 xs).map fun (o : Op) => o.preds.length).take xs.length ++ (List.replicate xs.length 0).drop xs.length), vr, Nr, Nw, rfl, rfl, rfl, ?_⟩ zg zl zn ?_
   · refine ⟨Kahn.init (fun k hk => ?_) ?_ rfl, Nat.zero_le _, hvw, hvr⟩
     · obtain ⟨y, hy, hfy⟩ := fst1_get hk
       rw [List.getElem?_append_left (by simp [fst1]; omega), List.getElem?_take_of_lt hk, prd_at hfy];exact map_get (f := fun (o : Op) => o.preds.length) hfy
     · simp [fst1]
   rintro nn s1 h19 L_ le20 ⟨d, R, w, vr2, Nr2, Nw2, rfl, rfl, rfl, hK, hdR, hvw, hvr⟩;replace ho := ho.mono le20; replace hp1 := hp1.mono le20;refine qg (qg (qg (len_os sl_159 aa ?_)));refine qg (lssB (fun c97 => ?_) (fun c97 => ?_))
   ·
    rw [List.length_map] at c97;have hdl : d < R.length := by omega
    obtain ⟨j, hj⟩ := qE hdl;have hRn := nodup_le xs.length R hK.nd hK.lt;have hjn := hK.lt j (List.mem_of_getElem? hj);have hbll := congrArg List.length hbl;rw [List.length_map, behL_len] at hbll;rw [behL_len] at hNl;obtain ⟨bp, hbp⟩ := qE (l := bh) (k := j) af;obtain ⟨Nj, hNj⟩ := qE (l := Ns) (k := j) af;have hoj := hoN j bp Nj hbp hNj
    have hbpe : bp.2 = bhs (fst1 xs) ids xs.length j := by
     have h9 := congrArg (fun l => l[j]?) hbl;simp only [List.getElem?_map, hbp, Option.map_some] at h9;rw [behL_at hjn, bhp_zero] at h9; exact Option.some.inj h9
    rw [hbpe] at hoj;refine qd ?_;refine qg (qg (qg (qg (index_os (k := d) sl_159 aa rfl al ?_))));intro p103 hp103;refine qg (load_os1 sc_3 aa aa (fun e he => (List.mem_append_left _ he)) (map_get hj) an ?_);refine qg (index_os (k := j) sl_160 aa rfl al ?_);intro p105 hp105;refine qg (load_os1 sc_159 aa aa (fun e he => (zq (zq (List.mem_append_left _ he)))) (map_get (f := fun (p : Value × List Nat) => [p.1]) hbp) an ?_);refine qg (len_os sl_159 hoj ?_);refine qg (qd ?_);refine qL (fun s0 nn s' h' L' => ∃ (q : Nat) (R2 : List Nat) (w2 : List Nat) (vr3 : Value) (Nr3 : Own) (Nw3 : Own), s' = [(6, vr3), (108, .int .i64 q)] ++ qR s0 [1, 4, 5, 13, 106, 107] ∧ nn = (bhs (fst1 xs) ids xs.length j).length - q ∧ Nr3 ++ (Ns.flatten ++ (Nb ++ (Nw3 ++ L))) = L' ∧ q ≤ (bhs (fst1 xs) ids xs.length j).length ∧ Kahn (fst1 xs) ids xs.length R2 d q w2 ∧ R2[d]? = some j ∧ OS 3 1 v39 (w2.map natC) Nw3 ∧ OS 3 1 vr3 (R2.map natC) Nr3) ⟨0, R, w, vr2, Nr2, Nw2, rfl, rfl, rfl, ?_⟩ zg zl zn ?_
    · exact ⟨Nat.zero_le _, hK, hj, hvw, hvr⟩
    rintro nn s1 h21 L_ le22 ⟨q, R2, w2, vr3, Nr3, Nw3, rfl, rfl, rfl, hq, hK2, hj2, hvw, hvr⟩;refine qg (lssB (fun c109 => ?_) (fun c109 => ?_))
    ·
     rw [List.length_map] at c109;have hbhl := List.length_filter_le (fun k => decide (idd ids j ∈ prd (fst1 xs) k)) (List.range xs.length);rw [List.length_range] at hbhl
     change (bhs (fst1 xs) ids xs.length j).length ≤ _ at hbhl
     have hql : q < (bhs (fst1 xs) ids xs.length j).length := by omega
     obtain ⟨k, hk⟩ := qE hql;have hkn := (bhs_mem.1 (List.mem_of_getElem? hk)).1;have hw2l := hK2.len;obtain ⟨cc, hcc⟩ := qE (l := w2) (k := k) af;obtain ⟨hc1, _, hstep⟩ := hK2.step hidn hl hprn hj2 hk hcc;have hR2n := nodup_le xs.length R2 hK2.nd hK2.lt
     have hcb : cc < 100000 := by
      have h9 := hK2.wt k hkn;rw [hcc] at h9;have h8 := Option.some.inj h9;rw [h8]; unfold cnt;refine Nat.lt_of_le_of_lt (List.length_filter_le _ _) ?_;obtain ⟨y, hy, hfy⟩ := fst1_get hkn;rw [prd_at hfy];have := (hpr y (List.mem_of_getElem? hy)).2; omega
     refine qd ?_;refine qg (index_os (k := q) sl_159 hoj rfl al ?_);intro p110 hp110;refine qg (load_os1 sc_3 hp110 hoj (fun e he => (zq (List.mem_append_left _ (List.mem_flatten.2 ⟨_, List.mem_of_getElem? hNj, he⟩)))) (map_get hk) rfl ?_);refine qg (qd ?_);refine qg (qg (qg (index_os (k := k) sl_159 aa rfl al ?_)));intro p114 hp114;refine qg (load_os1 sc_3 aa aa (fun e he => (zq (zq (zq (List.mem_append_left _ he))))) (map_get hcc) an ?_);refine qg (sub_i64n (a := cc) (b := 1) hc1 af ?_);refine qg (index_os (k := k) sl_159 aa rfl al ?_);intro p117 hp117;refine qg (store_os si_3 ac ai ad aa hvw (map_get hcc) ((za ((za ((za kR).trans (List.perm_append_comm_assoc _ _ _))).trans (List.perm_append_comm_assoc _ _ _))).trans (List.perm_append_comm_assoc _ _ _)) ab (by exact Eq.refl [_]) ?_);clear hvw; intro M23 hvw; refine ⟨_, ((za ((za ((za kR).trans (List.perm_append_comm_assoc _ _ _))).trans (List.perm_append_comm_assoc _ _ _))).trans (List.perm_append_comm_assoc _ _ _)).symm, ?_⟩;rw [natC_set] at hvw;have hnew : (w2.set k (cc - 1))[k]? = some (cc - 1) := List.getElem?_set_self af;refine qd ?_;refine qg (qg (qg (index_os (k := k) sl_159 aa rfl (by rw [List.length_map, List.length_set]; omega) ?_)));intro p120 hp120;refine qg (load_os1 sc_3 aa aa (fun e he => (zq (zq (zq (List.mem_append_left _ he))))) (map_get hnew) an ?_);refine qg (eqlB (fun c122 => ?_) (fun c122 => ?_))
     ·
      refine qd ?_;refine qg (qg (qg (qB sl_159 z_3 rfl ag ah aj ?_)));intro v125 h25 le24 hv125;refine qg (qp sl_159 sl_159 z_3 aa aa kR ar ?_);intro v126 N126 hv126;refine ⟨_, kR.symm, ?_⟩;refine qg (qd ?_);refine qg (qA ak ?_);refine qg (qd ?_)
      exact back (m := _) ⟨q + 1, R2 ++ [k], w2.set k (cc - 1), _, N126, _, rfl, rfl, rfl, by omega, by
       have hz : cc - 1 = 0 := by omega
       rw [if_pos hz] at hstep; exact hstep, by rw [List.getElem?_append_left (List.getElem?_eq_some_iff.1 hj2).1]; exact hj2, hvw, by simpa [natC] using hv126⟩ af zg zl zn
     ·
      refine qd ?_;refine qg (qA ak ?_);refine qg (qd ?_)
      exact back (m := _) ⟨q + 1, R2, w2.set k (cc - 1), vr3, Nr3, _, rfl, rfl, rfl, by omega, by
       have hz : ¬ cc - 1 = 0 := by omega
       rw [if_neg hz] at hstep; exact hstep, hj2, hvw, hvr⟩ af zg zl zn
    ·
     rw [List.length_map] at c109;refine qd ?_;refine qg (qg (qA ak ?_));refine qg (qd ?_);exact back (m := _) ⟨d + 1, R2, w2, vr3, Nr3, Nw3, rfl, rfl, rfl, hK2.next hj2 af, (List.getElem?_eq_some_iff.1 hj2).1, hvw, hvr⟩ af zg zl zn
   ·
    rw [List.length_map] at c97;have hde : R.length ≤ d := by omega
    obtain ⟨f, hff⟩ := hf;have hall := hK.all hde hl hfl hc hff;refine qd ?_;refine qg (qg (qf fi_25_1 aa ?_));intro p129 hp129;refine qg (ql sc_23 aa ?_);refine qg (qm sl_23 (ROps.sl aa) ?_);refine qg (lssB (fun c132 => ?_) (fun c132 => ?_))
    ·
     omega
    ·
     refine qd ?_;refine qg (qd ?_);refine DoRet.r1 (.tmp rfl) (qh (List.Sublist.trans (List.Sublist.trans (List.Sublist.trans (List.Sublist.trans kS (List.sublist_append_right _ _)) (List.sublist_append_right _ _)) (List.sublist_append_right _ _)) (List.sublist_append_right _ _))) zl ?_;exact ⟨rfl, rfl⟩
end Go.Brd
namespace Go.Brd
open Go Go.Brd Go.Proofs
set_option linter.unusedVariables false
theorem ef_59 : Tryz.prog.eqGuardType Tryz.prog.depth 59 = false := by kernel_rfl
theorem ia_59 : isAggT Tryz.prog 59 = true := by kernel_rfl
theorem sh_59 : shp Tryz.prog 20 59 = some [.i .u32, .i .u32] := by kernel_rfl
theorem sl_34 : sliceOf Tryz.prog 34 25 2 = true := by kernel_rfl
theorem GOk.opOk {l : List Op} (h : GOk l) {o : Op} (ho : o ∈ l) : OpOk o := opOk_iff.1 (h.ok o ho).1
theorem GOk.idx {xs : List (Op × Value)} (h : GOk (fst1 xs)) {k : Nat} {x : Op × Value} (hx : xs[k]? = some x) : OpOk x.1 ∧ sgn x.1 = true ∧ ((fst1 xs).map idOf)[k]? = some (idOf x.1) := by
 have hm : x.1 ∈ fst1 xs := List.mem_of_getElem? (fst1_at hx);exact ⟨h.opOk hm, (h.ok _ hm).2, map_get (fst1_at hx)⟩
theorem GOk.preds {xs : List (Op × Value)} (h : GOk (fst1 xs)) : ∀ x ∈ xs, risB x.1.preds = true ∧ x.1.preds.length ≤ 4 := fun x hx => by
 have ho := h.opOk (List.mem_map.2 ⟨x, hx, rfl⟩ : x.1 ∈ fst1 xs);exact ⟨ho.ris, ho.preds⟩
theorem GOk.rank2 {l : List Op} (h : GOk l) : ∃ f : ID → Nat, ∀ (k : Nat) (o : Op) (i : ID), l[k]? = some o → (l.map idOf)[k]? = some i → ∀ p ∈ o.preds, f p < f i := by
 obtain ⟨f, hf⟩ := h.rank;refine ⟨f, fun k o i ho hi p hp => ?_⟩;rw [List.getElem?_map, ho] at hi; cases hi;exact hf o (List.mem_of_getElem? ho) p hp
theorem GOk.nodup {l : List Op} (h : GOk l) : (l.map idOf).Nodup := risB_nodup h.ris
def insO (o : Op) : List Op → List Op
 | [] => [o]
 | a :: r => if Lib.compareBytes (idOf a) (idOf o) < 0 then a :: insO o r else o :: a :: r
def addO (o : Op) (l : List Op) : List Op := if idOf o ∈ l.map idOf then l else insO o l
def unionO (a b : List Op) : List Op := b.foldl (fun g o => addO o g) a
theorem insO_eq {o : Op} : ∀ {l : List Op} {i : Nat}, LB (l.map idOf) (idOf o) i → l.take i ++ o :: l.drop i = insO o l
 | [], i, h => by
  have : i = 0 := by have := h.le; simp at this; exact this
  subst this; rfl
 | a :: r, i, h => by
  have h0 := h.lt 0 (idOf a) rfl;unfold insO;by_cases hc : Lib.compareBytes (idOf a) (idOf o) < 0
  · rw [if_pos hc]
    obtain ⟨j, rfl⟩ : ∃ j, i = j + 1 := ⟨i - 1, by have := h0.1 hc; omega⟩;rw [List.take_succ_cons, List.drop_succ_cons, List.cons_append];congr 1
    refine insO_eq ⟨by have := h.le; simp at this; simpa using this, fun k y hy => ?_⟩;have := h.lt (k + 1) y (by simpa using hy);rw [this]; omega
  · rw [if_neg hc]
    have : i = 0 := by
     rcases Nat.eq_zero_or_pos i with h1 | h1
     · exact h1
     · exact absurd (h0.2 h1) hc
    subst this; rfl
theorem mem_insO {o x : Op} : ∀ {l : List Op}, x ∈ insO o l ↔ x = o ∨ x ∈ l
 | [] => by simp [insO]
 | a :: r => by
  unfold insO;split
  · simp only [List.mem_cons, mem_insO]; constructor
    · rintro (h | h | h)
      · exact .inr (.inl h)
      · exact .inl h
      · exact .inr (.inr h)
    · rintro (h | h | h)
      · exact .inr (.inl h)
      · exact .inl h
      · exact .inr (.inr h)
  · simp
theorem insO_len {o : Op} : ∀ {l : List Op}, (insO o l).length = l.length + 1
 | [] => rfl
 | a :: r => by
  unfold insO;split
  · simp [insO_len]
  · simp
def Rising (l : List Op) : Prop := (l.map idOf).Pairwise fun x y => Lib.compareBytes x y < 0
theorem risB_of_pairwise {l : List ID} (h : l.Pairwise fun x y => Lib.compareBytes x y < 0) : risB l = true := risB_true fun k x y hx hy => by
 obtain ⟨h1, e1⟩ := List.getElem?_eq_some_iff.1 hx;obtain ⟨h2, e2⟩ := List.getElem?_eq_some_iff.1 hy;rw [← e1, ← e2]; exact List.pairwise_iff_getElem.1 h k (k + 1) h1 h2 af
theorem cmp_total {x y : List UInt8} (h : ¬ Lib.compareBytes x y < 0) (hne : x ≠ y) : Lib.compareBytes y x < 0 := by
 have h1 := cmp_flip x y;have h2 : Lib.compareBytes x y ≠ 0 := fun e => hne (cmp_id_iff.1 e)
 omega
theorem insO_rising {o : Op} : ∀ {l : List Op}, Rising l → idOf o ∉ l.map idOf → Rising (insO o l)
 | [], _, _ => by unfold Rising insO; simp
 | a :: r, h, hn => by
  unfold Rising at h;rw [List.map_cons, List.pairwise_cons] at h;simp only [List.map_cons, List.mem_cons, not_or] at hn;unfold insO;split
  · rename_i hc
    unfold Rising;rw [List.map_cons, List.pairwise_cons];refine ⟨fun y hy => ?_, insO_rising h.2 hn.2⟩;obtain ⟨z, hz, rfl⟩ := List.mem_map.1 hy;rcases mem_insO.1 hz with e | hz
    · subst e; exact hc
    · exact h.1 _ (List.mem_map.2 ⟨z, hz, rfl⟩)
  · rename_i hc
    unfold Rising;have hoa := cmp_total hc (fun e => hn.1 e.symm);rw [List.map_cons, List.pairwise_cons];refine ⟨fun y hy => ?_, by rw [List.map_cons, List.pairwise_cons]; exact h⟩;rcases List.mem_cons.1 hy with e | hy
    · subst e; exact hoa
    · exact cmp_trans hoa (h.1 y hy)
theorem mem_addO {o x : Op} {l : List Op} (hc : ∀ y ∈ l, idOf y = idOf o → y = o) : x ∈ addO o l ↔ x = o ∨ x ∈ l := by
 unfold addO;split
 · rename_i hm
   obtain ⟨y, hy, e⟩ := List.mem_map.1 hm;have := hc y hy e;subst this;exact ⟨.inr, fun h => h.elim (fun e => e ▸ hy) id⟩
 · exact mem_insO
theorem addO_rising {o : Op} {l : List Op} (h : Rising l) : Rising (addO o l) := by
 unfold addO; split
 · exact h
 · rename_i hn; exact insO_rising h hn
theorem addO_len {o : Op} {l : List Op} : (addO o l).length ≤ l.length + 1 := by
 unfold addO; split
 · omega
 · rw [insO_len]; exact Nat.le_refl _
def Apt (l : List Op) : Prop := ∀ x ∈ l, ∀ y ∈ l, idOf x = idOf y → x = y
theorem mem_unionO {a : List Op} {x : Op} : ∀ {b : List Op}, Apt (a ++ b) → (x ∈ unionO a b ↔ x ∈ a ∨ x ∈ b) := by
 intro b
 induction b generalizing a with
 | nil => intro _; simp [unionO]
 | cons o b ih =>
  intro h;have hmo : ∀ y, y ∈ addO o a ↔ y = o ∨ y ∈ a := fun y => mem_addO (fun y hy e => h y (by simp [hy]) o am e)
  have h2 : Apt (addO o a ++ b) := by
   intro x hx y hy e;refine h x ?_ y ?_ e
   · rcases List.mem_append.1 hx with hx | hx
     · rcases (hmo x).1 hx with e | hx
       · subst e; simp
       · simp [hx]
     · simp [hx]
   · rcases List.mem_append.1 hy with hy | hy
     · rcases (hmo y).1 hy with e | hy
       · subst e; simp
       · simp [hy]
     · simp [hy]
  show x ∈ unionO (addO o a) b ↔ _;rw [ih h2, hmo];simp only [List.mem_cons];constructor
  · rintro ((h | h) | h)
    · exact .inr (.inl h)
    · exact .inl h
    · exact .inr (.inr h)
  · rintro (h | h | h)
    · exact .inl (.inr h)
    · exact .inl (.inl h)
    · exact .inr h
theorem unionO_rising {a : List Op} (h : Rising a) : ∀ {b : List Op}, Rising (unionO a b) := by
 intro b
 induction b generalizing a with
 | nil => exact h
 | cons o b ih => exact ih (addO_rising h)
theorem unionO_snoc (a b : List Op) (o : Op) : unionO a (b ++ [o]) = addO o (unionO a b) := by unfold unionO; rw [List.foldl_append]; rfl
theorem unionO_len (a : List Op) : ∀ (b : List Op), (unionO a b).length ≤ a.length + b.length := by
 intro b
 induction b generalizing a with
 | nil => exact Nat.le_refl _
 | cons o b ih =>
  have h1 := ih (addO o a);have h2 := addO_len (o := o) (l := a);show (unionO (addO o a) b).length ≤ _;simp only [List.length_cons]; omega
theorem addO_le {o : Op} {l : List Op} : l.length ≤ (addO o l).length := by
 unfold addO; split
 · exact Nat.le_refl _
 · rw [insO_len]; omega
theorem unionO_mono (a b : List Op) (k : Nat) : (unionO a (b.take k)).length ≤ (unionO a b).length := by
 have : ∀ (c : List Op) (g : List Op), g.length ≤ (unionO g c).length := by
  intro c
  induction c with
  | nil => intro g; exact Nat.le_refl _
  | cons o c ih => intro g; exact Nat.le_trans addO_le (ih (addO o g))
 have h := this (b.drop k) (unionO a (b.take k));unfold unionO at h ⊢;rw [← List.foldl_append, List.take_append_drop] at h;exact h
structure GrE where
 iv : Value
 ov : Value
 xs : List (Op × Value)
def grC (g : GrE) : List Value := [g.iv, g.ov]
structure GR (h : GH) (g : GrE) : Prop where
 ids : RIds h g.iv ((fst1 g.xs).map idOf)
 ops : ROps h g.ov g.xs
theorem GR.mono {h h' : GH} {g : GrE} (hle : GH.le h h') (r : GR h g) : GR h' g := ⟨r.ids.mono hle, r.ops.mono hle⟩
structure RGs (h : GH) (v : Value) (gs : List GrE) : Prop where
 sl : Sl h v 2 (gs.map grC)
 each : ∀ g ∈ gs, GR h g
theorem RGs.mono {h h' : GH} {v : Value} {gs : List GrE} (hle : GH.le h h') (r : RGs h v gs) : RGs h' v gs := ⟨r.sl.mono hle, fun g hg => (r.each g hg).mono hle⟩
theorem grC_one {g : GrE} {h : GH} (r : GR h g) : (grC g).all oneCell = true := by unfold grC; simp [Sl.one r.ids, Sl.one r.ops.sl]
theorem dag_check {c : World} {h : GH} {L : Own} {iv ov : Value} {xs : List (Op × Value)} (hg : GK h) (hi : RIds h iv ((fst1 xs).map idOf)) (ho : ROps h ov xs) (hG : GOk (fst1 xs)):
 Fun Tryz.prog c 64 #[gV iv ov] h L (fun u _ L' => u = .int .i64 0 ∧ L = L') := by
 have hfl := fst1_len xs;have h60 := hG.small;have h32 := hi.len32;have hil : ((fst1 xs).map idOf).length = xs.length := by rw [List.length_map, hfl]
 refine zS (N := 50) (args := [gV iv ov]) Tryz.func64 ?_;refine qg (box_at rfl ?_);intro p1 h2 le1 hp1;replace hg := hg.mono le1; replace hi := hi.mono le1; replace ho := ho.mono le1;refine qg (qd ?_);refine qg (qf fi_25_1 aa ?_);intro p7 hp7;refine qg (ql sc_23 aa ?_);refine qg (qm sl_23 (ROps.sl aa) ?_);refine qg (gtrB (fun c10 => ?_) (fun c10 => ?_))
 ·
  omega
 ·
  refine qd ?_;refine qg (qf fi_25_0 aa ?_);intro p11 hp11;refine qg (ql sc_22 aa ?_);refine qg (qm sl_22 aa ?_);refine qg (qf fi_25_1 aa ?_);intro p14 hp14;refine qg (ql sc_23 aa ?_);refine qg (qm sl_23 (ROps.sl aa) ?_);refine qg (neqB (fun c17 => ?_) (fun c17 => ?_))
  ·
   omega
  ·
   refine qd ?_;refine qg (qf fi_25_1 aa ?_);intro p18 hp18;refine qg (ql sc_23 aa ?_);refine qg (qm sl_23 (ROps.sl aa) ?_);refine qg (qd ?_);refine qL (fun s0 nn s' h' L' => ∃ (k : Nat), s' = [(21, .int .i64 k)] ++ qR s0 [1, 19, 20] ∧ nn = xs.length - k ∧ L = L' ∧ k ≤ xs.length) ⟨0, rfl, rfl, rfl, ?_⟩ zg zl zn ?_
   · exact Nat.zero_le _
   rintro nn s1 h3 L_ le4 ⟨k, rfl, rfl, rfl, hk⟩;replace hg := hg.mono le4; replace hi := hi.mono le4; replace ho := ho.mono le4; replace hp1 := hp1.mono le4;refine qg (lssB (fun c22 => ?_) (fun c22 => ?_))
   ·
    have hkl : k < xs.length := by omega
    obtain ⟨x, hx⟩ := qE hkl;have hr := ho.each x (List.mem_of_getElem? hx);obtain ⟨hok, hsg, hxi⟩ := hG.idx hx;refine qd ?_;refine qg (qg (qi (k := k) sl_23 ho.sl rfl hx ?_));intro p24 r24 hl24 hp24;refine qg (qP ag_61 aa aa ?_);refine qg (qa zc_61 ?_);intro b4;refine qg (qg (kB (l' := opC2 x.1 x.2) si_61 ac ai (opC_one2 (Sl.one hr.preds)) kR ab rfl kR.symm ?_));refine qd ?_;refine qg (qx (r := opC2 x.1 x.2) ag_61 kH ab rfl ?_);refine qg (qc (op_id (o := x.1) (pv := x.2) hg hok hr.wf (ho.each x (List.mem_of_getElem? hx)).preds) ?_);rintro v28 h6 L_ le5 ⟨rfl, rfl⟩;replace hg := hg.mono le5; replace hi := hi.mono le5; replace ho := ho.mono le5; replace hp1 := hp1.mono le5;have hcl : (idC (idOf x.1)).length = 32 := by rw [idC_length, idOf_len]
    refine qg (qg (qg (qg (qa zc_74 ?_))));intro b5;refine qg (kB (l' := idC (idOf x.1)) si_74 ac hcl (idC_one _) kR ab (over_all (by rw [hcl, List.length_replicate])) kR.symm ?_);refine qg (qd ?_);refine qD mixed [] [0, 1, 2, 3, 4, 5, 6, 7, 8, 9, 10, 11, 12, 13, 14, 15] (_ :: (_ :: [])) ae (qq kH (qq (kT kH) sub_nil)) ?_;refine qr rfl rfl rfl (qr rfl rfl rfl (neqB (fun c32 => ?_) (fun c32 => ?_)))
    ·
     omega
    ·
     refine qr rfl rfl rfl (DoDr.rdF rfl rfl rfl rfl rfl ?_);refine qx (r := idC (idOf x.1)) ag_74 kH (by rw [hcl]; decide) (by rw [List.drop_zero, List.take_of_length_le (by rw [hcl]; decide)]) ?_;refine DoDr.rdF rfl rfl rfl rfl rfl ?_;refine qf fi_25_0 aa ?_;intro p35 hp35;refine DoDr.rdF rfl rfl rfl rfl rfl ?_;refine ql sc_22 aa ?_;refine DoDr.rdF rfl rfl rfl rfl rfl ?_;refine DoDr.rdF rfl rfl rfl rfl rfl ?_;refine qi (k := k) sl_22 aa rfl hxi ?_;intro p38 r38 hl38 hp38;refine DoDr.rdF rfl rfl rfl rfl rfl ?_;refine qP ag_74 aa aa ?_;refine DoDr.rdF rfl rfl rfl rfl rfl ?_;refine neqI sh_id ia_id ef_id aa aa (fun c40 => ?_) (fun c40 => ?_)
     ·
      exact (c40 rfl).elim
     ·
      refine qr rfl rfl rfl (qr rfl rfl rfl (DoDr.rdF rfl rfl rfl rfl rfl ?_));refine qx (r := opC2 x.1 x.2) ag_61 (kT kH) ab rfl ?_;refine DoDr.efF rfl rfl rfl rfl rfl ?_;refine qc (op_verify (o := x.1) (pv := x.2) hg hok hsg hr.wf (ho.each x (List.mem_of_getElem? hx)).preds) ?_;rintro v44 h8 L_ le7 ⟨rfl, rfl⟩;refine ⟨(qq kH (qq (kT kH) sub_nil)), ?_⟩;refine DoDr.rdF rfl rfl rfl rfl rfl ?_;refine neqB (fun c45 => ?_) (fun c45 => ?_)
      ·
       omega
      ·
       refine qr rfl rfl rfl (qe zf ?_);refine qg (qA ak ?_);refine qg (qd ?_);exact back (m := _) ⟨k + 1, rfl, rfl, rfl, by omega⟩ af (qh (zu (zu kS))) zl zn
   ·
    refine qd ?_;refine qg (qX ag_25 aa ag ?_);refine qg (qc (dag_shape hi ho hG.ris hil af hG.closed hG.preds hG.rank2) ?_);rintro v49 h10 L_ le9 ⟨rfl, rfl⟩;refine qg (qd ?_);refine ze rfl ?_;exact ⟨rfl, rfl⟩
theorem dag_checks {c : World} {h : GH} {L : Own} {v : Value} {gs : List GrE} (hg : GK h) (hs : RGs h v gs) (hG : ∀ g ∈ gs, GOk (fst1 g.xs)):
 Fun Tryz.prog c 28 #[v] h L (fun u _ L' => u = .int .i64 0 ∧ L = L') := by
 have hsm := hs.sl.small; rw [List.length_map] at hsm;refine zS (N := 18) (args := [v]) Tryz.func28 ?_;refine qg (qd ?_);refine qg (qg (qm sl_34 hs.sl ?_));refine qg (qd ?_);refine qL (fun s0 nn s' h' L' => ∃ (k : Nat), s' = [(8, .int .i64 k)] ++ qR s0 [6, 7] ∧ nn = gs.length - k ∧ L = L' ∧ k ≤ gs.length) ⟨0, rfl, rfl, rfl, ?_⟩ zg zl zn ?_
 · exact Nat.zero_le _
 rintro nn s1 h1 L_ le2 ⟨k, rfl, rfl, rfl, hk⟩;replace hg := hg.mono le2; replace hs := hs.mono le2;refine qg (lssB (fun c9 => ?_) (fun c9 => ?_))
 ·
  have hkl : k < gs.length := by omega
  obtain ⟨x, hx⟩ := qE hkl;have hr := hs.each x (List.mem_of_getElem? hx);refine qd ?_;refine qg (qi (k := k) sl_34 hs.sl rfl hx ?_);intro p10 r10 hl10 hp10;refine qg (qP ag_25 aa aa ?_);refine qg (qa zc_25 ?_);intro b4;refine qg (kB (l' := grC x) si_25 ac ai (grC_one hr) kR ab rfl kR.symm ?_);refine qd ?_;refine qg (qx (r := grC x) ag_25 kH ab rfl ?_);refine qg (qc (dag_check hg hr.ids hr.ops (hG x (List.mem_of_getElem? hx))) ?_);rintro v13 h4 L_ le3 ⟨rfl, rfl⟩;refine qg (qd ?_);refine qg (qg (neqB (fun c15 => ?_) (fun c15 => ?_)))
  ·
   omega
  ·
   refine qd ?_;refine qg (qA ak ?_);refine qg (qd ?_);exact back (m := _) ⟨k + 1, rfl, rfl, rfl, by omega⟩ af (qh (zu kS)) zl zn
 ·
  refine qd ?_;refine qg (qd ?_);refine ze rfl ?_;exact ⟨rfl, rfl⟩
theorem dag_same {c : World} {h : GH} {L : Own} {o : Op} {pv qv : Value} (hp : RIds h pv o.preds) (hq : RIds h qv o.preds):
 Fun Tryz.prog c 30 #[opV o pv, opV o qv] h L (fun u _ L' => u = .bool true ∧ L = L') := by
 refine zS (N := 38) (args := [.agg (opC2 o pv).toArray, .agg (opC2 o qv).toArray]) Tryz.func30 ?_;refine qg (box_at rfl ?_);intro p2 h2 le1 hp2;replace hp := hp.mono le1; replace hq := hq.mono le1;refine qg (box_at rfl ?_);intro p3 h4 le3 hp3;replace hp := hp.mono le3; replace hq := hq.mono le3; replace hp2 := hp2.mono le3;refine qg (qd ?_);refine qg (qf fi_61_0 aa ?_);intro p5 hp5;refine qg (ql sc_53 aa ?_);refine qg (qf fi_61_0 aa ?_);intro p7 hp7;refine qg (ql sc_53 aa ?_);refine qg (eqlB (fun c9 => ?_) (fun c9 => ?_))
 ·
  refine qg (qT rfl rfl ?_);refine qf fi_61_2 aa ?_;intro p11 hp11;refine qT rfl rfl ?_;refine ql sc_52 aa ?_;refine qT rfl rfl ?_;refine qf fi_61_2 aa ?_;intro p13 hp13;refine qT rfl rfl ?_;refine ql sc_52 aa ?_;refine qT rfl rfl ?_;refine eqlB (fun c15 => ?_) (fun c15 => ?_)
  ·
   refine qg (qg (qT rfl rfl ?_));refine qf fi_61_3 aa ?_;intro p18 hp18;refine qT rfl rfl ?_;refine load_aggT ag_57 aa ab ?_;refine qT rfl rfl ?_;refine qf fi_61_3 aa ?_;intro p20 hp20;refine qT rfl rfl ?_;refine load_aggT ag_57 aa ab ?_;refine qT rfl rfl ?_;refine eqlF sh_57 ia_57 ef_57 rfl rfl (fun c22 => ?_) (fun c22 => ?_)
   ·
    refine qg (qg (qT rfl rfl ?_));refine qf fi_61_4 aa ?_;intro p25 hp25;refine qT rfl rfl ?_;refine qX ag_59 aa ag ?_;refine qT rfl rfl ?_;refine qf fi_61_4 aa ?_;intro p27 hp27;refine qT rfl rfl ?_;refine qX ag_59 aa ag ?_;refine qT rfl rfl ?_;refine eqlF sh_59 ia_59 ef_59 rfl rfl (fun c29 => ?_) (fun c29 => ?_)
    ·
     refine qg (qg (qT rfl rfl ?_));refine qf fi_61_1 aa ?_;intro p32 hp32;refine qT rfl rfl ?_;refine ql sc_22 aa ?_;refine qT rfl rfl ?_;refine qf fi_61_1 aa ?_;intro p34 hp34;refine qT rfl rfl ?_;refine ql sc_22 aa ?_;refine qT rfl rfl ?_;refine qc (equal_ids hp hq) ?_;rintro v36 h6 L_ le5 ⟨rfl, rfl⟩;rw [decide_eq_true rfl];refine qg (qg (qd ?_));refine ze rfl ?_;exact ⟨rfl, rfl⟩
    ·
     exact (c29 rfl).elim
   ·
    exact (c22 rfl).elim
  ·
   exact (c15 rfl).elim
 ·
  exact (c9 rfl).elim
theorem conv_same {c : World} {h : GH} {L : Own} {o : Op} {pv qv : Value} (hp : RIds h pv o.preds) (hq : RIds h qv o.preds):
 Fun Tryz.prog c 74 #[opV o pv, opV o qv] h L (fun u _ L' => u = .bool true ∧ L = L') := by
 refine zS (N := 38) (args := [.agg (opC2 o pv).toArray, .agg (opC2 o qv).toArray]) Tryz.func74 ?_;refine qg (box_at rfl ?_);intro p2 h2 le1 hp2;replace hp := hp.mono le1; replace hq := hq.mono le1;refine qg (box_at rfl ?_);intro p3 h4 le3 hp3;replace hp := hp.mono le3; replace hq := hq.mono le3; replace hp2 := hp2.mono le3;refine qg (qd ?_);refine qg (qf fi_61_0 aa ?_);intro p5 hp5;refine qg (ql sc_53 aa ?_);refine qg (qf fi_61_0 aa ?_);intro p7 hp7;refine qg (ql sc_53 aa ?_);refine qg (eqlB (fun c9 => ?_) (fun c9 => ?_))
 ·
  refine qg (qT rfl rfl ?_);refine qf fi_61_2 aa ?_;intro p11 hp11;refine qT rfl rfl ?_;refine ql sc_52 aa ?_;refine qT rfl rfl ?_;refine qf fi_61_2 aa ?_;intro p13 hp13;refine qT rfl rfl ?_;refine ql sc_52 aa ?_;refine qT rfl rfl ?_;refine eqlB (fun c15 => ?_) (fun c15 => ?_)
  ·
   refine qg (qg (qT rfl rfl ?_));refine qf fi_61_3 aa ?_;intro p18 hp18;refine qT rfl rfl ?_;refine load_aggT ag_57 aa ab ?_;refine qT rfl rfl ?_;refine qf fi_61_3 aa ?_;intro p20 hp20;refine qT rfl rfl ?_;refine load_aggT ag_57 aa ab ?_;refine qT rfl rfl ?_;refine eqlF sh_57 ia_57 ef_57 rfl rfl (fun c22 => ?_) (fun c22 => ?_)
   ·
    refine qg (qg (qT rfl rfl ?_));refine qf fi_61_4 aa ?_;intro p25 hp25;refine qT rfl rfl ?_;refine qX ag_59 aa ag ?_;refine qT rfl rfl ?_;refine qf fi_61_4 aa ?_;intro p27 hp27;refine qT rfl rfl ?_;refine qX ag_59 aa ag ?_;refine qT rfl rfl ?_;refine eqlF sh_59 ia_59 ef_59 rfl rfl (fun c29 => ?_) (fun c29 => ?_)
    ·
     refine qg (qg (qT rfl rfl ?_));refine qf fi_61_1 aa ?_;intro p32 hp32;refine qT rfl rfl ?_;refine ql sc_22 aa ?_;refine qT rfl rfl ?_;refine qf fi_61_1 aa ?_;intro p34 hp34;refine qT rfl rfl ?_;refine ql sc_22 aa ?_;refine qT rfl rfl ?_;refine qc (equal_ids hp hq) ?_;rintro v36 h6 L_ le5 ⟨rfl, rfl⟩;rw [decide_eq_true rfl];refine qg (qg (qd ?_));refine ze rfl ?_;exact ⟨rfl, rfl⟩
    ·
     exact (c29 rfl).elim
   ·
    exact (c22 rfl).elim
  ·
   exact (c15 rfl).elim
 ·
  exact (c9 rfl).elim
end Go.Brd
namespace Go.Brd
open Go Go.Brd Go.Proofs
set_option linter.unusedVariables false
theorem unionO_step {a b : List Op} {k : Nat} {o : Op} (h : b[k]? = some o) : unionO a (b.take (k + 1)) = addO o (unionO a (b.take k)) := by rw [takeS h, unionO_snoc]
theorem LB.insO_ids {l : List Op} {o : Op} {i : Nat} (h : LB (l.map idOf) (idOf o) i) : (l.map idOf).take i ++ idOf o :: (l.map idOf).drop i = (insO o l).map idOf := by
 rw [← insO_eq h, List.map_append, List.map_take, List.map_cons, List.map_drop]
theorem addO_in {o : Op} {l : List Op} (h : idOf o ∈ l.map idOf) : addO o l = l := if_pos h
theorem addO_out {o : Op} {l : List Op} (h : idOf o ∉ l.map idOf) : addO o l = insO o l := if_neg h
theorem mem_fst1 {xs : List (Op × Value)} {k : Nat} {x : Op × Value} (h : xs[k]? = some x) : x.1 ∈ fst1 xs := List.mem_of_getElem? (fst1_at h)
theorem unionO_small {P : Op → Prop} {a b : List Op} (ha : ∀ o ∈ a, P o) (hb : ∀ o ∈ b, P o) : ∀ o ∈ unionO a b, P o := by
 induction b generalizing a with
 | nil => exact ha
 | cons o b ih =>
  refine ih (fun x hx => ?_) (fun x hx => hb x (by simp [hx]))
  change x ∈ addO o a at hx
  unfold addO at hx;split at hx
  · exact ha x hx
  · rcases mem_insO.1 hx with e | hx
    · subst e; exact hb x am
    · exact ha x hx
theorem dag_union {c : World} {h : GH} {L : Own} {iv1 ov1 iv2 ov2 : Value} {xs ys : List (Op × Value)} (hg : GK h) (hi1 : RIds h iv1 ((fst1 xs).map idOf)) (ho1 : ROps h ov1 xs) (hG1 : GOk (fst1 xs)) (hi2 : RIds h iv2 ((fst1 ys).map idOf)) (ho2 : ROps h ov2 ys) (hG2 : GOk (fst1 ys)) (hA : Apt (fst1 xs ++ fst1 ys)) (h60 : (unionO (fst1 xs) (fst1 ys)).length ≤ 60):
 Fun Tryz.prog c 8 #[gV iv1 ov1, gV iv2 ov2] h L (fun u h' L' => (∃ g : GrE, u = .tuple #[.agg (grC g).toArray, .int .i64 0] ∧ GR h' g ∧ fst1 g.xs = unionO (fst1 xs) (fst1 ys)) ∧ L = L') := by
 have hf1 := fst1_len xs;have hf2 := fst1_len ys;have hs1 := hG1.small;have hs2 := hG2.small;have hl1 : ((fst1 xs).map idOf).length = xs.length := by rw [List.length_map, hf1]
 have hl2 : ((fst1 ys).map idOf).length = ys.length := by rw [List.length_map, hf2]
 refine kF (N := 100) (args := [gV iv1 ov1, gV iv2 ov2]) Tryz.func8 ?_;refine qo ae ?_;refine qg (box_at rfl ?_);intro p2 h2 le1 hp2;replace hg := hg.mono le1; replace hi1 := hi1.mono le1; replace ho1 := ho1.mono le1; replace hi2 := hi2.mono le1; replace ho2 := ho2.mono le1;refine qg (box_at rfl ?_);intro p3 h4 le3 hp3;replace hg := hg.mono le3; replace hi1 := hi1.mono le3; replace ho1 := ho1.mono le3; replace hi2 := hi2.mono le3; replace ho2 := ho2.mono le3; replace hp2 := hp2.mono le3;refine qg (qa zc_25 ?_);intro b4;refine qg (qd (qo ae ?_));refine qg (qX ag_25 aa ag ?_);refine qg (qX ag_25 aa ag ?_);refine qg (buildSliceN (ls := [grC ⟨iv1, ov1, xs⟩, grC ⟨iv2, ov2, ys⟩]) sl_34 zc_25 (qy ac (qy ac Parts.nil)) rfl rfl (all2 rfl rfl) (all2 (grC_one ⟨hi1, ho1⟩) (grC_one ⟨hi2, ho2⟩)) ah ah ?_);intro v18 h6 le5 hv18;replace hg := hg.mono le5; replace hi1 := hi1.mono le5; replace ho1 := ho1.mono le5; replace hi2 := hi2.mono le5; replace ho2 := ho2.mono le5; replace hp2 := hp2.mono le5; replace hp3 := hp3.mono le5;refine qg (qc (dag_checks (gs := [⟨iv1, ov1, xs⟩, ⟨iv2, ov2, ys⟩]) hg ⟨hv18, all2 ⟨hi1, ho1⟩ ⟨hi2, ho2⟩⟩ (all2 hG1 hG2)) ?_);rintro v19 h8 L_ le7 ⟨rfl, rfl⟩;replace hi1 := hi1.mono le7; replace ho1 := ho1.mono le7; replace hi2 := hi2.mono le7; replace ho2 := ho2.mono le7; replace hp2 := hp2.mono le7; replace hp3 := hp3.mono le7;refine qg (qd (qo ae ?_));refine qg (qg (neqB (fun c21 => ?_) (fun c21 => ?_)))
 ·
  omega
 ·
  refine qd (qo ae ?_);refine qg (qf fi_25_0 aa ?_);intro p24 hp24;refine qg (ql sc_22 aa ?_);refine qg (qm sl_22 aa ?_);refine qg (qd ?_);refine qL (fun s0 nn s' h' L' => ∃ (k : Nat), s' = [(27, .int .i64 k)] ++ qR s0 [2, 3, 4, 25, 26] ∧ nn = ys.length - k ∧ (b4, .cells [.slice none 0 0, .slice none 0 0].toArray 25 (0, 0)) :: L = L' ∧ k ≤ ys.length) ⟨0, rfl, rfl, rfl, ?_⟩ zg zl zn ?_
  · exact Nat.zero_le _
  rintro nn s1 h9 L_ le10 ⟨k, rfl, rfl, rfl, hk⟩;replace hi1 := hi1.mono le10; replace ho1 := ho1.mono le10; replace hi2 := hi2.mono le10; replace ho2 := ho2.mono le10; replace hp2 := hp2.mono le10; replace hp3 := hp3.mono le10;refine qo ae ?_;refine qg (lssB (fun c28 => ?_) (fun c28 => ?_))
  ·
   rw [hl2] at c28;have hkl : k < ys.length := by omega
   obtain ⟨y, hy⟩ := qE hkl;have hry := ho2.each y (List.mem_of_getElem? hy);obtain ⟨hok, hsg, hyi⟩ := hG2.idx hy;have hcl : (idC (idOf y.1)).length = 32 := by rw [idC_length, idOf_len]
   refine qd (qo ae ?_);refine qg (qg (qi (k := k) sl_22 aa rfl hyi ?_));intro p30 r30 hl30 hp30;refine qg (qP ag_74 aa aa ?_);refine qg (qa zc_74 ?_);intro b8;refine qg (qg (kB (l' := idC (idOf y.1)) si_74 ac hcl (idC_one _) kR ab (over_all (by rw [hcl, List.length_replicate])) kR.symm ?_));refine qd (qo ae ?_);refine qg (qX ag_25 aa ag ?_);refine qg (qx (r := idC (idOf y.1)) ag_74 kH (by rw [hcl]; decide) (by rw [List.drop_zero, List.take_of_length_le (by rw [hcl]; decide)]) ?_);refine qg (qc (dag_find hi1 hG1.ris (Sl.one ho1.sl) hcl) ?_);rintro v35 h12 L_ le11 ⟨⟨a, rfl, hlb⟩, rfl⟩;replace ho1 := ho1.mono le11; replace ho2 := ho2.mono le11; replace hp2 := hp2.mono le11; replace hp3 := hp3.mono le11;obtain ⟨bm, hbm⟩ : ∃ b, decide (idOf y.1 ∈ (fst1 xs).map idOf) = b := ⟨_, rfl⟩;rw [hbm];cases bm
   ·
    refine qg (qg (qg (qg (qg (qd ?_)))));refine qD mixed [] [0, 1, 2, 3, 4, 5, 6, 7, 8, 9, 10, 11, 12, 13, 14] [] ae sub_nil ?_;refine qr rfl rfl rfl (qr rfl rfl rfl (DoDr.skipT rfl rfl rfl rfl ?_));refine DoDr.skipT rfl rfl rfl rfl ?_;refine DoDr.skipT rfl rfl rfl rfl ?_;refine DoDr.skipT rfl rfl rfl rfl ?_;refine DoDr.skipT rfl rfl rfl rfl ?_;refine DoDr.skipT rfl rfl rfl rfl ?_;refine DoDr.skipT rfl rfl rfl rfl ?_;refine DoDr.skipT rfl rfl rfl rfl ?_;refine DoDr.skipT rfl rfl rfl rfl ?_;refine DoDr.skipT rfl rfl rfl rfl ?_;refine DoDr.skipT rfl rfl rfl rfl ?_;refine DoDr.skipT rfl rfl rfl rfl ?_;refine qr rfl rfl rfl (qe zf ?_);refine qo ae ?_;refine qg (qA ak ?_);refine qg (qd ?_);exact back (m := _) ⟨k + 1, rfl, rfl, rfl, by omega⟩ af (qh (zu (zv kS))) zl zn
   ·
    have hmem := of_decide_eq_true hbm;have hat := (hlb.mem hG1.ris).1 hmem;have hal := (List.getElem?_eq_some_iff.1 hat).1;rw [hl1] at hal;obtain ⟨z, hz⟩ := qE hal;have hrz := ho1.each z (List.mem_of_getElem? hz);obtain ⟨_, _, hzi⟩ := hG1.idx hz;have hzy : z.1 = y.1 := hA z.1 (by simp [mem_fst1 hz]) y.1 (by simp [mem_fst1 hy]) (by rw [hat] at hzi; exact (Option.some.inj hzi).symm);refine qg (qg (qg (qg (qg (qd ?_)))));refine qD mixed [] [0, 1, 2, 3, 4, 5, 6, 7, 8, 9, 10, 11, 12, 13, 14] [] ae sub_nil ?_;refine qr rfl rfl rfl (qr rfl rfl rfl (DoDr.rdT rfl rfl rfl rfl rfl ?_));refine qf fi_25_1 aa ?_;intro p40 hp40;refine DoDr.rdT rfl rfl rfl rfl rfl ?_;refine ql sc_23 aa ?_;refine DoDr.rdT rfl rfl rfl rfl rfl ?_;refine DoDr.rdT rfl rfl rfl rfl rfl ?_;refine qi (k := a) sl_23 ho1.sl rfl hz ?_;intro p43 r43 hl43 hp43;refine DoDr.rdT rfl rfl rfl rfl rfl ?_;refine qP ag_61 aa aa ?_;refine DoDr.rdT rfl rfl rfl rfl rfl ?_;refine qf fi_25_1 aa ?_;intro p45 hp45;refine DoDr.rdT rfl rfl rfl rfl rfl ?_;refine ql sc_23 aa ?_;refine DoDr.rdT rfl rfl rfl rfl rfl ?_;refine DoDr.rdT rfl rfl rfl rfl rfl ?_;refine qi (k := k) sl_23 ho2.sl rfl hy ?_;intro p48 r48 hl48 hp48;refine DoDr.rdT rfl rfl rfl rfl rfl ?_;refine qP ag_61 aa aa ?_;refine DoDr.efT rfl rfl rfl rfl rfl ?_;refine qc (show Fun Tryz.prog c 30 #[opV z.1 z.2, opV y.1 y.2] _ _ _ from by rw [hzy]; exact dag_same (hzy ▸ (ho1.each z (List.mem_of_getElem? hz)).preds) (ho2.each y (List.mem_of_getElem? hy)).preds) ?_;rintro v50 h14 L_ le13 ⟨rfl, rfl⟩;refine ⟨am, ?_⟩;refine DoDr.rdT rfl rfl rfl rfl rfl ?_;refine not_tt ?_;refine qr rfl rfl rfl (qe zf ?_);refine qo ae ?_;refine qg (qA ak ?_);refine qg (qd ?_);exact back (m := _) ⟨k + 1, rfl, rfl, rfl, by omega⟩ af (qh (zu (zv kS))) zl zn
  ·
   refine qd (qo ae ?_);refine qg (qf fi_25_0 aa ?_);intro p55 hp55;refine qg (ql sc_22 aa ?_);refine qg (qc (Fun.frozen (by rw [List.length_map, hl1]; omega) (clone_id hi1 (by rw [List.length_map, hl1]; omega))) ?_);rintro v57 h16 L_ le15 ⟨rfl, hv57⟩;replace ho1 := ho1.mono le15; replace hi2 := hi2.mono le15; replace ho2 := ho2.mono le15; replace hp2 := hp2.mono le15; replace hp3 := hp3.mono le15;refine qg (build_struct zc_25 pl_25 (qy ac Parts.nil) rfl ?_);refine qg (qa zc_25 ?_);intro b11;refine qg (kB si_25 ac ai ad kR ab rfl kR.symm ?_);refine qd (qo ae ?_);refine qg (qf fi_25_1 aa ?_);intro p59 hp59;refine qg (ql sc_23 aa ?_);refine qg (qm sl_23 (ROps.sl aa) ?_);refine qg (qd ?_);refine qL (fun s0 nn s' h' L' => ∃ (k : Nat) (v : Value) (N : Own) (zs : List (Op × Value)), s' = [(62, .int .i64 k)] ++ qR s0 [3, 4, 11, 60, 61] ∧ nn = xs.length - k ∧ N ++ ((b11, .cells [v57, v].toArray 25 (0, 0)) :: (b4, .cells [.slice none 0 0, .slice none 0 0].toArray 25 (0, 0)) :: L) = L' ∧ k ≤ xs.length ∧ OS 61 11 v (zs.map opC) N ∧ RAll h' zs ∧ fst1 zs = (fst1 xs).take k) ⟨0, _, [], [], rfl, rfl, rfl, ?_⟩ zg zl zn ?_
   · exact ⟨Nat.zero_le _, OS.nil _ _, RAll.nil _, by simp [fst1]⟩
   rintro nn s1 h17 L_ le18 ⟨k, v, N, zs, rfl, rfl, rfl, hk, hv, hzs, hfz⟩;replace ho1 := ho1.mono le18; replace hi2 := hi2.mono le18; replace ho2 := ho2.mono le18; replace hp3 := hp3.mono le18; replace hv57 := hv57.mono le18;refine qo ae ?_;refine qg (lssB (fun c63 => ?_) (fun c63 => ?_))
   ·
    have hkl : k < xs.length := by omega
    obtain ⟨x, hx, hfx⟩ := fst1_get hkl;have hrx := ho1.each x (List.mem_of_getElem? hx);have hok := (hG1.idx hx).1;have hyl : zs.length = k := by have h9 := congrArg List.length hfz; rw [fst1_len, List.length_take, hf1] at h9; omega
    refine qd (qo ae ?_);refine qg (qi (k := k) sl_23 ho1.sl rfl hx ?_);intro p64 r64 hl64 hp64;refine qg (qP ag_61 aa aa ?_);refine qg (qa zc_61 ?_);intro b13;refine qg (kB (l' := opC2 x.1 x.2) si_61 ac ai (opC_one2 (Sl.one hrx.preds)) kR ab rfl kR.symm ?_);refine qd ?_;refine qD mixed [7] [0, 1, 2, 3, 4, 5, 6, 7] (_ :: (_ :: [])) ae (qq (kT (zq kH)) (qq kH sub_nil)) ?_;refine qr rfl rfl rfl (qw fi_25_1 ?_);refine qr rfl rfl rfl (qO (v := v) sc_23 kH rfl ?_);refine qr rfl rfl rfl (qx (r := opC2 x.1 x.2) ag_61 (kT kH) ab rfl ?_);refine qj rfl rfl rfl ?_;refine qc (dag_twin (o := x.1) (pv := x.2) (ho1.each x (List.mem_of_getElem? hx)).preds (by have := hok.preds; omega)) ?_;rintro v69 h20 L_ le19 ⟨⟨pv69, rfl, hpv69⟩, rfl⟩;replace hzs := hzs.mono le19;refine ⟨(qq (kT (zq kH)) (qq kH sub_nil)), ?_⟩;refine qj rfl rfl rfl ?_;refine qB sl_23 z_61 rfl ag ah aj ?_;intro v70 h22 le21 hv70;replace hzs := hzs.mono le21; replace hpv69 := hpv69.mono le21;refine ⟨(qq (kT (zq kH)) (qq kH sub_nil)), ?_⟩;refine qj rfl rfl rfl ?_;refine qp sl_23 sl_23 z_61 aa aa ((zc kR).trans zm.symm) ar ?_;intro v71 N71 hv71;refine ⟨_, ((zc kR).trans zm.symm).symm, ?_⟩;refine ⟨(qq (kT (zq kH)) (qq kH sub_nil)), ?_⟩;refine qr rfl rfl rfl (qw fi_25_1 ?_);refine DoDr.drop rfl rfl rfl ?_;refine kB si_23 ac ai ad ((zc ((za kR).trans zm)).trans zw) ab rfl ((zc ((za kR).trans zm)).trans zw).symm ?_;refine qe zf ?_;refine qo ae ?_;refine qg (qA ak ?_);refine qg (qd ?_);exact back (m := _) ⟨k + 1, _, N71, zs ++ [(x.1, pv69)], rfl, rfl, rfl, by omega, opC_snoc hv71, hzs.snoc hpv69 hrx.wf, by rw [fst1_snoc, hfz, ← takeS hfx]⟩ af (qh (zu (List.Sublist.append_left (zv (zv kS)) _))) zl zn
   ·
    have hke : k = xs.length := by omega
    have hfz2 : fst1 zs = fst1 xs := by rw [hfz, hke, List.take_of_length_le af]
    have hyl2 : zs.length = xs.length := by have h9 := congrArg List.length hfz2; rw [fst1_len, hf1] at h9; exact h9
    refine qd ?_;refine DoRg.freeze hv (by rw [List.length_map, hyl2]; omega) kR ?_;intro h23 le24 hv;replace hi2 := hi2.mono le24; replace ho2 := ho2.mono le24; replace hp3 := hp3.mono le24; replace hv57 := hv57.mono le24; replace hzs := hzs.mono le24;have hro := ROps.mk hv hzs;have hri := hv57;rw [← hfz2] at hri;refine qo ae ?_;refine qg (qf fi_25_0 aa ?_);intro p74 hp74;refine qg (ql sc_22 aa ?_);refine qg (qm sl_22 aa ?_);refine qg (qd ?_);refine qL (fun s0 nn s' h' L' => ∃ (k : Nat) (g : GrE), s' = [(77, .int .i64 k)] ++ qR s0 [3, 4, 11, 75, 76] ∧ nn = ys.length - k ∧ (b11, .cells (grC g).toArray 25 (0, 0)) :: (b4, .cells [.slice none 0 0, .slice none 0 0].toArray 25 (0, 0)) :: L = L' ∧ k ≤ ys.length ∧ GR h' g ∧ fst1 g.xs = unionO (fst1 xs) ((fst1 ys).take k)) ⟨0, ⟨v57, v, zs⟩, rfl, rfl, rfl, ?_⟩ zg zl zn ?_
    · exact ⟨Nat.zero_le _, ⟨hri, hro⟩, by rw [hfz2]; rfl⟩
    rintro nn s1 h25 L_ le26 ⟨k, g, rfl, rfl, rfl, hk, hgr, hfg⟩;replace hi2 := hi2.mono le26; replace ho2 := ho2.mono le26; replace hp3 := hp3.mono le26; replace hro := hro.mono le26; replace hri := hri.mono le26;refine qo ae ?_;refine qg (lssB (fun c78 => ?_) (fun c78 => ?_))
    ·
     rw [hl2] at c78;have hkl : k < ys.length := by omega
     obtain ⟨y, hy, hfy⟩ := fst1_get hkl;have hry := ho2.each y (List.mem_of_getElem? hy);obtain ⟨hok, hsg, hyi⟩ := hG2.idx hy;have hcl : (idC (idOf y.1)).length = 32 := by rw [idC_length, idOf_len]
     have hst := unionO_step (a := fst1 xs) hfy;have hris : risB ((fst1 g.xs).map idOf) = true := by rw [hfg]; exact risB_of_pairwise (unionO_rising (risB_pairwise hG1.ris))
     have hlen1 := unionO_mono (fst1 xs) (fst1 ys) k;rw [← hfg, fst1_len] at hlen1
     have hps : ∀ x ∈ g.xs, x.1.preds.length ≤ 4 := fun x hx => by
      have hm : x.1 ∈ unionO (fst1 xs) ((fst1 ys).take k) := by rw [← hfg]; exact List.mem_map.2 ⟨x, hx, rfl⟩
      exact unionO_small (P := fun o => o.preds.length ≤ 4) (fun o ho => (hG1.opOk ho).preds) (fun o ho => (hG2.opOk (List.mem_of_mem_take ho)).preds) _ hm
     refine qd (qo ae ?_);refine qg (qg (qi (k := k) sl_22 aa rfl hyi ?_));intro p80 r80 hl80 hp80;refine qg (qP ag_74 aa aa ?_);refine qg (qa zc_74 ?_);intro b15;refine qg (qg (kB (l' := idC (idOf y.1)) si_74 ac hcl (idC_one _) kR ab (over_all (by rw [hcl, List.length_replicate])) kR.symm ?_));refine qd ?_;refine qD mixed [11] [0, 1, 2, 3, 4, 5, 6, 7, 8, 9, 10, 11] (_ :: (_ :: [])) ae (qq (kT kH) (qq kH sub_nil)) ?_;refine qr rfl rfl rfl (qx (r := grC g) ag_25 kH ab rfl ?_);refine qr rfl rfl rfl (qx (r := idC (idOf y.1)) ag_74 (kT kH) (by rw [hcl]; decide) (by rw [List.drop_zero, List.take_of_length_le (by rw [hcl]; decide)]) ?_);refine qr rfl rfl rfl (qf fi_25_1 aa ?_);intro p85 hp85;refine qr rfl rfl rfl (ql sc_23 aa ?_);refine qr rfl rfl rfl (qr rfl rfl rfl (qi (k := k) sl_23 ho2.sl rfl hy ?_));intro p88 r88 hl88 hp88;refine qr rfl rfl rfl (qP ag_61 aa aa ?_);refine qj rfl rfl rfl ?_;refine qc (dag_put (iv := g.iv) (ov := g.ov) (xs := g.xs) (o := y.1) (pv := y.2) (id := idOf y.1) hgr.ids hris hgr.ops (by rw [List.length_map, fst1_len]) af hcl (ho2.each y (List.mem_of_getElem? hy)).preds (ho2.each y (List.mem_of_getElem? hy)).wf hok.preds hps) ?_;rintro v90 h28 L_ le27 ⟨hput, rfl⟩;replace hro := hro.mono le27; replace hri := hri.mono le27; replace hgr := hgr.mono le27
     obtain ⟨g2, bb, rfl, hgr2, hfg2⟩ : ∃ (g2 : GrE) (bb : Bool), v90 = .tuple #[.agg (grC g2).toArray, .bool bb] ∧ GR _ g2 ∧ fst1 g2.xs = unionO (fst1 xs) ((fst1 ys).take (k + 1)) := by
      rcases hput with ⟨hm, rfl⟩ | ⟨hm, i, iv', ov', xs', hlb, rfl, hri, hro, hfx⟩
      · exact ⟨g, false, rfl, hgr, by rw [hst, ← hfg, addO_in hm]⟩
      · refine ⟨⟨iv', ov', xs'⟩, true, rfl, ⟨?_, hro⟩, ?_⟩
        · show RIds _ iv' ((fst1 xs').map idOf)
          rw [hfx, insO_eq hlb, ← hlb.insO_ids]; exact hri
        · show fst1 xs' = _
          rw [hfx, insO_eq hlb, hst, ← hfg, addO_out hm]
     refine ⟨(qq (kT kH) (qq kH sub_nil)), ?_⟩;refine qr rfl rfl rfl (qr rfl rfl rfl (qr rfl rfl rfl (DoDr.drop rfl rfl rfl ?_)));refine kB (l' := grC g2) si_25 ac ai (grC_one hgr2) ((zc kR).trans zw) ab rfl ((zc kR).trans zw).symm ?_;refine qe zf ?_;refine qo ae ?_;refine qg (qA ak ?_);refine qg (qd ?_);exact back (m := _) ⟨k + 1, g2, rfl, rfl, rfl, by omega, hgr2, hfg2⟩ af (qh (zu (zv (zv kS)))) zl zn
    ·
     rw [hl2] at c78;have hke2 : k = ys.length := by omega
     rw [hke2, List.take_of_length_le af] at hfg;have hgl : g.xs.length ≤ 60 := by rw [← fst1_len, hfg]; exact h60
     have hro2 := hgr.ops;refine qd (qo ae ?_);refine qg (qw fi_25_1 ?_);refine qg (qO sc_23 kH an ?_);refine qg (qm sl_23 (ROps.sl aa) ?_);refine qg (gtrB (fun c97 => ?_) (fun c97 => ?_))
     ·
      omega
     ·
      refine qd (qo ae ?_);refine qg (qx (r := grC g) ag_25 kH ab rfl ?_);refine qg (kB (l' := grC g) si_25 ac ai (grC_one hgr) ((zc kR).trans zw) ab rfl ((zc kR).trans zw).symm ?_);refine qg (qd ?_);refine DoRet.r2 (.cell rfl (qx (r := grC g) ag_25 (kT kH) ab rfl rfl)) (.tmp rfl) (qh (zu (zu kS))) zl ?_;exact ⟨⟨g, rfl, hgr, hfg⟩, rfl⟩
end Go.Brd
