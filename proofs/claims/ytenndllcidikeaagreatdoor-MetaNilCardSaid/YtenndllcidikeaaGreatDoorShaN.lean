/- The program's functions, run by the rewriting evaluator: what each answers and leaves (ShaN). -/
import Derived.Test.YtenndllcidikeaaGreatDoorShaA
set_option linter.all false
open Go Go.Cl Go.Proofs
namespace Go.Cl.Sh
noncomputable section
set_option maxRecDepth 1000000

/-- a number is worked out before it goes on -/
def fz {α : Type} (n : Nat) (f : Nat → α) : α := Nat.rec (motive := fun _ => α) (f 0) (fun m _ => f (Nat.succ m)) n
theorem fz_eq {α : Type} (n : Nat) (f : Nat → α) : fz n f = f n := by cases n <;> rfl
def rotN (x a b : Nat) : Nat := Nat.add (Nat.mul (Nat.mod x a) b) (Nat.div x a)
def sg0N (x : Nat) : Nat := Nat.xor (Nat.xor (rotN x 128 33554432) (rotN x 262144 16384)) (Nat.div x 8)
def sg1N (x : Nat) : Nat := Nat.xor (Nat.xor (rotN x 131072 32768) (rotN x 524288 8192)) (Nat.div x 1024)
def nthN : List Nat → Nat → Nat
  | [], _ => 0
  | a :: _, 0 => a
  | _ :: l, n + 1 => nthN l n
def nxN (l : List Nat) : Nat := Nat.mod (Nat.add (Nat.add (Nat.add (nthN l 15) (sg0N (nthN l 14))) (nthN l 6)) (sg1N (nthN l 1))) 4294967296
def schN' : Nat → List Nat → List Nat
  | 0, l => l
  | k + 1, l => fz (nxN l) fun v => schN' k (v :: l)
def xN (k w e f g h : Nat) : Nat := Nat.mod (Nat.add (Nat.add (Nat.add (Nat.add h (Nat.xor (Nat.xor (rotN e 64 67108864) (rotN e 2048 2097152)) (rotN e 33554432 128))) (Nat.xor (Nat.land e f) (Nat.land (Nat.sub 4294967295 e) g))) k) w) 4294967296
def yN (a b c : Nat) : Nat := Nat.mod (Nat.add (Nat.xor (Nat.xor (rotN a 4 1073741824) (rotN a 8192 524288)) (rotN a 4194304 1024)) (Nat.xor (Nat.xor (Nat.land a b) (Nat.land a c)) (Nat.land b c))) 4294967296
def rndsN : List Nat → List Nat → Nat → Nat → Nat → Nat → Nat → Nat → Nat → Nat → List Nat
  | k :: ks, w :: ws, a, b, c, d, e, f, g, h => fz (xN k w e f g h) fun x => fz (Nat.mod (Nat.add x (yN a b c)) 4294967296) fun a' => fz (Nat.mod (Nat.add d x) 4294967296) fun e' => rndsN ks ws a' a b c e' e f g
  | _, _, a, b, c, d, e, f, g, h => [a, b, c, d, e, f, g, h]
def wordsN : Nat → List Nat → List Nat → List Nat
  | 0, _, l => l
  | k + 1, a :: b :: c :: d :: xs, l => fz (Nat.add (Nat.mul (Nat.add (Nat.mul (Nat.add (Nat.mul a 256) b) 256) c) 256) d) fun v => wordsN k xs (v :: l)
  | _ + 1, _, l => l

theorem rot_toNat (x : BitVec 32) (n : Nat) (h0 : 0 < n) (h : n < 32) : (rotr x n).toNat = rotN x.toNat (2 ^ n) (2 ^ (32 - n)) := by
  unfold rotr rotN
  show _ = x.toNat % 2 ^ n * 2 ^ (32 - n) + x.toNat / 2 ^ n
  rw [BitVec.toNat_or, BitVec.toNat_shiftLeft, BitVec.toNat_ushiftRight, Nat.shiftLeft_eq, Nat.shiftRight_eq_div_pow]
  have e1 : x.toNat * 2 ^ (32 - n) % 2 ^ 32 = x.toNat % 2 ^ n * 2 ^ (32 - n) := by
    rw [show (2 : Nat) ^ 32 = 2 ^ n * 2 ^ (32 - n) by rw [← Nat.pow_add]; congr 1; omega, Nat.mul_mod_mul_right]
  have e2 : x.toNat / 2 ^ n < 2 ^ (32 - n) := by
    rw [Nat.div_lt_iff_lt_mul (Nat.two_pow_pos n), ← Nat.pow_add, show 32 - n + n = 32 by omega]; exact x.isLt
  rw [e1]
  have := Nat.two_pow_add_eq_or_of_lt (i := 32 - n) (b := x.toNat / 2 ^ n) e2 (x.toNat % 2 ^ n)
  rw [Nat.mul_comm (x.toNat % 2 ^ n)]; exact this.symm
theorem sg0_toNat (x : BitVec 32) : (sg0 x).toNat = sg0N x.toNat := by
  unfold sg0 sg0N
  rw [BitVec.toNat_xor, BitVec.toNat_xor, rot_toNat x 7 (by decide) (by decide), rot_toNat x 18 (by decide) (by decide), BitVec.toNat_ushiftRight, Nat.shiftRight_eq_div_pow]
  rfl
theorem sg1_toNat (x : BitVec 32) : (sg1 x).toNat = sg1N x.toNat := by
  unfold sg1 sg1N
  rw [BitVec.toNat_xor, BitVec.toNat_xor, rot_toNat x 17 (by decide) (by decide), rot_toNat x 19 (by decide) (by decide), BitVec.toNat_ushiftRight, Nat.shiftRight_eq_div_pow]
  rfl
theorem nthN_eq : ∀ (l : List Nat) (n : Nat), nthN l n = l[n]?.getD 0
  | [], _ => rfl
  | _ :: _, 0 => rfl
  | _ :: l, n + 1 => by simp only [nthN, nthN_eq l n]; simp
theorem map_getD (l : List (BitVec 32)) (n : Nat) : nthN (l.map BitVec.toNat) n = (l[n]?.getD 0).toNat := by
  rw [nthN_eq, List.getElem?_map]
  cases l[n]? <;> rfl
theorem add_mod' (a b : Nat) : (a % 4294967296 + b) % 4294967296 = (a + b) % 4294967296 := Nat.mod_add_mod _ _ _
theorem nx_toNat (l : List (BitVec 32)) : nxN (l.map BitVec.toNat) = (Sh.schN l).toNat := by
  unfold nxN Sh.schN
  rw [map_getD, map_getD, map_getD, map_getD, ← sg0_toNat, ← sg1_toNat]
  rw [BitVec.toNat_add, BitVec.toNat_add, BitVec.toNat_add]
  show (_ + _ + _ + _) % 4294967296 = _
  simp only [show (2 : Nat) ^ 32 = 4294967296 from rfl, add_mod']
theorem schR_succ (xs : List Nat) (t : Nat) (h : 16 ≤ t) : schR xs (t + 1) = Sh.schN (schR xs t) :: schR xs t := by
  show (if t < 16 then wd xs t else Sh.schN (schR xs t)) :: schR xs t = _
  rw [if_neg (by omega)]
theorem sch_eq (xs : List Nat) : ∀ k t, 16 ≤ t → schN' k ((schR xs t).map BitVec.toNat) = (schR xs (t + k)).map BitVec.toNat
  | 0, t, _ => rfl
  | k + 1, t, h => by
    simp only [schN', fz_eq]
    rw [nx_toNat, ← List.map_cons (f := BitVec.toNat), ← schR_succ xs t h, sch_eq xs k (t + 1) (by omega), show t + 1 + k = t + (k + 1) by omega]
theorem x_toNat (k w : BitVec 32) (s : S8) : xN k.toNat w.toNat s.e.toNat s.f.toNat s.g.toNat s.h.toNat = (s.h + (rotr s.e 6 ^^^ rotr s.e 11 ^^^ rotr s.e 25) + ((s.e &&& s.f) ^^^ (~~~ s.e &&& s.g)) + k + w).toNat := by
  unfold xN
  rw [BitVec.toNat_add, BitVec.toNat_add, BitVec.toNat_add, BitVec.toNat_add, BitVec.toNat_xor, BitVec.toNat_xor, rot_toNat s.e 6 (by decide) (by decide), rot_toNat s.e 11 (by decide) (by decide), rot_toNat s.e 25 (by decide) (by decide), BitVec.toNat_xor, BitVec.toNat_and, BitVec.toNat_and, BitVec.toNat_not]
  show (_ + _ + _ + _ + _) % 4294967296 = _
  simp only [show (2 : Nat) ^ 32 = 4294967296 from rfl, add_mod']
  rfl
theorem y_toNat (s : S8) : yN s.a.toNat s.b.toNat s.c.toNat = ((rotr s.a 2 ^^^ rotr s.a 13 ^^^ rotr s.a 22) + ((s.a &&& s.b) ^^^ (s.a &&& s.c) ^^^ (s.b &&& s.c))).toNat := by
  unfold yN
  rw [BitVec.toNat_add, BitVec.toNat_xor, BitVec.toNat_xor, rot_toNat s.a 2 (by decide) (by decide), rot_toNat s.a 13 (by decide) (by decide), rot_toNat s.a 22 (by decide) (by decide), BitVec.toNat_xor, BitVec.toNat_xor, BitVec.toNat_and, BitVec.toNat_and, BitVec.toNat_and]
  rfl
def itR (K W : List (BitVec 32)) (s : S8) : S8 := match K, W with
  | k :: K, w :: W => itR K W (rnd k w s)
  | _, _ => s
theorem rnds_eq : ∀ (K W : List (BitVec 32)) (s : S8), rndsN (K.map BitVec.toNat) (W.map BitVec.toNat) s.a.toNat s.b.toNat s.c.toNat s.d.toNat s.e.toNat s.f.toNat s.g.toNat s.h.toNat = (itR K W s).l.map BitVec.toNat
  | [], W, s => by cases W <;> rfl
  | k :: K, [], s => rfl
  | k :: K, w :: W, s => by
    simp only [List.map_cons, rndsN, fz_eq, itR]
    rw [x_toNat, y_toNat]
    have := rnds_eq K W (rnd k w s)
    rw [← this]
    congr 1
end
end Go.Cl.Sh

namespace Go.Cl.Sh
noncomputable section
set_option maxRecDepth 1000000

theorem itR_rnds (xs : List Nat) (s : S8) : ∀ (n t : Nat), t + n = 64 → itR (KL.drop t) (((schR xs 64).reverse).drop t) (rnds xs s t) = rnds xs s 64
  | 0, t, h => by
    have : t = 64 := by omega
    subst this
    rw [List.drop_of_length_le (by rw [KL_len]; exact Nat.le_refl _)]
    rfl
  | n + 1, t, h => by
    have h1 : KL[t]? = some (kw t) := by unfold kw; rw [List.getElem?_eq_getElem (by rw [KL_len]; omega)]; rfl
    have hlen : (schR xs 64).reverse.length = 64 := by rw [List.length_reverse]; exact (by
      have : ∀ n, (schR xs n).length = n := fun n => by
        induction n with
        | zero => rfl
        | succ n ih => simp [schR, ih]
      exact this 64)
    have h2 : (schR xs 64).reverse[t]? = some (W xs t) := by
      have hl2 : (schR xs 64).length = 64 := by rw [← List.length_reverse]; exact hlen
      rw [List.getElem?_reverse (by rw [hl2]; omega), hl2, schR_get xs 64 _ (by omega)]
      congr 2; omega
    have e1 : KL.drop t = kw t :: KL.drop (t + 1) := by
      rw [List.drop_eq_getElem_cons (by rw [KL_len]; omega)]; congr 1
      exact (List.getElem?_eq_some_iff.1 h1).2
    have e2 : (schR xs 64).reverse.drop t = W xs t :: (schR xs 64).reverse.drop (t + 1) := by
      rw [List.drop_eq_getElem_cons (by rw [hlen]; omega)]; congr 1
      exact (List.getElem?_eq_some_iff.1 h2).2
    rw [e1, e2]
    simp only [itR]
    exact itR_rnds xs s n (t + 1) (by omega)

/-- the constants, as numbers -/
def KN : List Nat := KL.map BitVec.toNat
def addN : List Nat → List Nat → List Nat
  | a :: l, b :: r => fz (Nat.mod (Nat.add a b) 4294967296) fun v => v :: addN l r
  | _, _ => []
def pressN (K : List Nat) (xs : List Nat) : List Nat → List Nat
  | [a, b, c, d, e, f, g, h] => addN [a, b, c, d, e, f, g, h] (rndsN K (schN' 48 (wordsN 16 xs [])).reverse a b c d e f g h)
  | s => s
def byteN (x : Nat) : List Nat := [Nat.mod (Nat.div x 16777216) 256, Nat.mod (Nat.div x 65536) 256, Nat.mod (Nat.div x 256) 256, Nat.mod x 256]

theorem wordN_eq {a b c d : Nat} (ha : a < 256) (hb : b < 256) (hc : c < 256) (hd : d < 256) : Nat.add (Nat.mul (Nat.add (Nat.mul (Nat.add (Nat.mul a 256) b) 256) c) 256) d =
    (BitVec.ofNat 32 a <<< 24 ||| BitVec.ofNat 32 b <<< 16 ||| BitVec.ofNat 32 c <<< 8 ||| BitVec.ofNat 32 d).toNat := by
  rw [← wd_add ha hb hc hd]
  have e : BitVec.ofNat 32 a * BitVec.ofNat 32 16777216 + BitVec.ofNat 32 b * BitVec.ofNat 32 65536 + BitVec.ofNat 32 c * BitVec.ofNat 32 256 + BitVec.ofNat 32 d = BitVec.ofNat 32 (a * 16777216 + b * 65536 + c * 256 + d) := by
    rw [← BitVec.ofNat_mul, ← BitVec.ofNat_mul, ← BitVec.ofNat_mul, ← BitVec.ofNat_add, ← BitVec.ofNat_add, ← BitVec.ofNat_add]
  rw [e, BitVec.toNat_ofNat, show (2 : Nat) ^ 32 = 4294967296 from rfl, Nat.mod_eq_of_lt (by omega)]
  show ((a * 256 + b) * 256 + c) * 256 + d = _
  omega
theorem words_eq (xs : List Nat) (h : ∀ b ∈ xs, b < 256) (hl : xs.length = 64) : ∀ k t, t + k = 16 → wordsN k (xs.drop (4 * t)) ((schR xs t).map BitVec.toNat) = (schR xs 16).map BitVec.toNat
  | 0, t, ht => by
    have : t = 16 := by omega
    subst this; rfl
  | k + 1, t, ht => by
    have g : ∀ j, j < 4 → xs[4 * t + j]? = some (xs[4 * t + j]?.getD 0) := fun j hj => by
      rw [List.getElem?_eq_getElem (by omega)]; rfl
    have hb : ∀ j, j < 4 → xs[4 * t + j]?.getD 0 < 256 := fun j hj => by
      rw [List.getElem?_eq_getElem (by omega)]; exact h _ (List.getElem_mem _)
    have e : xs.drop (4 * t) = xs[4 * t + 0]?.getD 0 :: xs[4 * t + 1]?.getD 0 :: xs[4 * t + 2]?.getD 0 :: xs[4 * t + 3]?.getD 0 :: xs.drop (4 * (t + 1)) := by
      rw [List.drop_eq_getElem_cons (by omega), List.drop_eq_getElem_cons (by omega), List.drop_eq_getElem_cons (by omega), List.drop_eq_getElem_cons (by omega)]
      rw [List.getElem?_eq_getElem (by omega), List.getElem?_eq_getElem (by omega), List.getElem?_eq_getElem (by omega), List.getElem?_eq_getElem (by omega)]
      rfl
    rw [e]
    simp only [wordsN, fz_eq]
    have hw : schR xs (t + 1) = wd xs t :: schR xs t := by
      show (if t < 16 then wd xs t else Sh.schN (schR xs t)) :: schR xs t = _
      rw [if_pos (by omega)]
    have hv : Nat.add (Nat.mul (Nat.add (Nat.mul (Nat.add (Nat.mul (xs[4 * t + 0]?.getD 0) 256) (xs[4 * t + 1]?.getD 0)) 256) (xs[4 * t + 2]?.getD 0)) 256) (xs[4 * t + 3]?.getD 0) = (wd xs t).toNat := by
      exact wordN_eq (hb 0 (by decide)) (hb 1 (by decide)) (hb 2 (by decide)) (hb 3 (by decide))
    rw [hv, ← List.map_cons (f := BitVec.toNat), ← hw]
    exact words_eq xs h hl k (t + 1) (by omega)

theorem press_eq (xs : List Nat) (h : ∀ b ∈ xs, b < 256) (hl : xs.length = 64) (s : S8) : pressN KN xs (s.l.map BitVec.toNat) = (pressS xs s).l.map BitVec.toNat := by
  show addN (s.l.map BitVec.toNat) (rndsN KN (schN' 48 (wordsN 16 xs [])).reverse s.a.toNat s.b.toNat s.c.toNat s.d.toNat s.e.toNat s.f.toNat s.g.toNat s.h.toNat) = _
  have hw := words_eq xs h hl 16 0 rfl
  rw [Nat.mul_zero, List.drop_zero] at hw
  have hw' : wordsN 16 xs [] = (schR xs 16).map BitVec.toNat := hw
  rw [hw', sch_eq xs 48 16 (Nat.le_refl _), ← List.map_reverse]
  have hit : itR KL (schR xs (16 + 48)).reverse s = rnds xs s 64 := by
    have := itR_rnds xs s 64 0 rfl
    rw [List.drop_zero, List.drop_zero] at this
    exact this
  unfold KN pressS
  rw [rnds_eq, hit]
  generalize rnds xs s 64 = r
  have ha : ∀ x y : BitVec 32, Nat.mod (Nat.add x.toNat y.toNat) 4294967296 = (x + y).toNat := fun x y => by
    rw [BitVec.toNat_add]; rfl
  simp only [S8.l, S8.add, List.map_cons, List.map_nil, addN, fz_eq, ha]
end
end Go.Cl.Sh

namespace Go.Cl.Sh
noncomputable section
set_option maxRecDepth 1000000

def KT : List Nat := [1116352408, 1899447441, 3049323471, 3921009573, 961987163, 1508970993, 2453635748, 2870763221, 3624381080, 310598401, 607225278, 1426881987, 1925078388, 2162078206, 2614888103, 3248222580, 3835390401, 4022224774, 264347078, 604807628, 770255983, 1249150122, 1555081692, 1996064986, 2554220882, 2821834349, 2952996808, 3210313671, 3336571891, 3584528711, 113926993, 338241895, 666307205, 773529912, 1294757372, 1396182291, 1695183700, 1986661051, 2177026350, 2456956037, 2730485921, 2820302411, 3259730800, 3345764771, 3516065817, 3600352804, 4094571909, 275423344, 430227734, 506948616, 659060556, 883997877, 958139571, 1322822218, 1537002063, 1747873779, 1955562222, 2024104815, 2227730452, 2361852424, 2428436474, 2756734187, 3204031479, 3329325298]
theorem KT_eq : KN = KT := by unfold KN KT; decide +kernel
def goN : Nat → List Nat → List Nat → List Nat
  | 0, _, s => s
  | k + 1, ys, s => goN k (ys.drop 64) (pressN KT (ys.take 64) s)
def s0N : List Nat := [1779033703, 3144134277, 1013904242, 2773480762, 1359893119, 2600822924, 528734635, 1541459225]
def digestN (xs : List Nat) : List Nat := (goN ((fullL xs).length / 64) (fullL xs) s0N).flatMap byteN
theorem goN_succ (k : Nat) (ys s : List Nat) : goN (k + 1) ys s = goN k (ys.drop 64) (pressN KT (ys.take 64) s) := by simp only [goN]
theorem stA_succ (ys : List Nat) (s : S8) (k : Nat) : stA ys s (k + 1) = pressS ((ys.drop (64 * k)).take 64) (stA ys s k) := by simp only [stA]
theorem pressT_eq (xs : List Nat) (h : ∀ b ∈ xs, b < 256) (hl : xs.length = 64) (s : S8) : pressN KT xs (s.l.map BitVec.toNat) = (pressS xs s).l.map BitVec.toNat := by rw [← KT_eq]; exact press_eq xs h hl s
theorem go_eq (ys : List Nat) (h : ∀ b ∈ ys, b < 256) (s : S8) : ∀ k t, 64 * (t + k) ≤ ys.length → goN k (ys.drop (64 * t)) ((stA ys s t).l.map BitVec.toNat) = (stA ys s (t + k)).l.map BitVec.toNat
  | 0, t, _ => rfl
  | k + 1, t, hl => by
    have hp := pressT_eq ((ys.drop (64 * t)).take 64) (fun b hb => h b (List.mem_of_mem_drop (List.mem_of_mem_take hb))) (by rw [List.length_take, List.length_drop]; omega) (stA ys s t)
    have ih := go_eq ys h s k (t + 1) (by omega)
    rw [stA_succ] at ih
    generalize pressS ((ys.drop (64 * t)).take 64) (stA ys s t) = q at hp ih
    rw [goN_succ, hp, List.drop_drop, show 64 * t + 64 = 64 * (t + 1) by omega, show t + (k + 1) = t + 1 + k by omega]
    exact ih
theorem byte_eq (x : BitVec 32) : byteN x.toNat = wbN x := by
  unfold byteN wbN
  rw [BitVec.toNat_ushiftRight, BitVec.toNat_ushiftRight, BitVec.toNat_ushiftRight, Nat.shiftRight_eq_div_pow, Nat.shiftRight_eq_div_pow, Nat.shiftRight_eq_div_pow]
  rfl
theorem digestN_eq (xs : List Nat) (h : ∀ b ∈ xs, b < 256) : digestN xs = digest xs := by
  rw [← digest_same]
  unfold digestN rdigest rendS
  obtain ⟨h1, _, _⟩ := fullL_len xs
  have := go_eq (fullL xs) (fullL_byte xs h) s0 ((fullL xs).length / 64) 0 (by omega)
  rw [Nat.mul_zero, List.drop_zero, Nat.zero_add] at this
  have e : (stA (fullL xs) s0 0).l.map BitVec.toNat = s0N := by kernel_rfl
  rw [e] at this
  rw [this, List.flatMap_map]
  congr 1
  funext x
  exact byte_eq x
end
end Go.Cl.Sh

namespace Go.Cl.Sh
noncomputable section
set_option maxRecDepth 1000000

def capB (h : H) (id off len : Nat) : Cap → Bool
  | .exact n => Nat.ble len n
  | .opn s => Nat.beq s 1 && (match h.blk id with | some b => Nat.ble (off + len) b.n | none => false)
def bytesV (h : H) : CV → Option (List Nat)
  | .nils => some []
  | .sl0 .. => some []
  | .slend .. => some []
  | .sl id off len c => cond (capB h id off len c && Nat.blt id h.nx) ((h.blk id).bind fun b => (b.loadN off len).bind bytesOf) none
  | _ => none
theorem bytesOf_inv : ∀ {l : List CV} {xs : List Nat}, bytesOf l = some xs → l = bc xs ∧ ∀ b ∈ xs, b < 256
  | [], xs, h => by cases h; exact ⟨rfl, by simp⟩
  | c :: l, xs, h => by
    cases c with
    | int k n =>
      cases k <;> try (simp [bytesOf] at h; done)
      cases n with
      | negSucc n => simp [bytesOf] at h
      | ofNat n =>
        simp only [bytesOf] at h
        cases hn : Nat.blt n 256 with
        | false => rw [hn] at h; cases h
        | true =>
          rw [hn, cond_true] at h
          obtain ⟨r, hr, h⟩ := Option.bind_eq_some_iff.1 h
          cases h
          obtain ⟨e, hb⟩ := bytesOf_inv hr
          refine ⟨by rw [e]; rfl, fun b hb' => ?_⟩
          rcases List.mem_cons.1 hb' with rfl | hb'
          · exact Nat.blt_eq.mp hn
          · exact hb b hb'
    | _ => simp [bytesOf] at h
theorem bytesV_bv {h : H} {v : CV} {xs : List Nat} (e : bytesV h v = some xs) : BV h v xs ∧ ∀ b ∈ xs, b < 256 := by
  cases v with
  | nils => cases e; exact ⟨.inl ⟨rfl, .inl rfl⟩, by simp⟩
  | sl0 a b c d => cases e; exact ⟨.inl ⟨rfl, .inr (.inl ⟨_, _, _, _, rfl⟩)⟩, by simp⟩
  | slend a b c d => cases e; exact ⟨.inl ⟨rfl, .inr (.inr ⟨_, _, _, _, rfl⟩)⟩, by simp⟩
  | sl id off len c =>
    simp only [bytesV] at e
    cases hc : (capB h id off len c && Nat.blt id h.nx) with
    | false => rw [hc] at e; cases e
    | true =>
      rw [hc, cond_true] at e
      simp only [Bool.and_eq_true] at hc
      obtain ⟨b, hb, e⟩ := Option.bind_eq_some_iff.1 e
      obtain ⟨cs, hcs, e⟩ := Option.bind_eq_some_iff.1 e
      obtain ⟨rfl, h256⟩ := bytesOf_inv e
      have hl : len = xs.length := by have := (loadN_spec hcs).1; rw [bc_len] at this; exact this.symm
      subst hl
      refine ⟨.inr ⟨id, off, c, b, rfl, Nat.blt_eq.mp hc.2, hb, hcs, ?_⟩, h256⟩
      cases c with
      | exact n => exact .inl ⟨n, rfl, Nat.ble_eq.mp hc.1⟩
      | opn s =>
        have h1 := hc.1
        simp only [capB, hb, Bool.and_eq_true] at h1
        exact .inr ⟨by rw [Nat.eq_of_beq_eq_true h1.1], b, hb, Nat.ble_eq.mp h1.2⟩
  | _ => simp [bytesV] at e

def hgB (h : H) : Bool := Nat.blt 0 h.gn && Nat.blt 0 h.nx && (match h.blk 0 with | some b => (match b.loadN 0 8 with | some l => beqCL l (startV.map fun x => CV.int .u32 x) | none => false) | none => false)
theorem hgB_hg {h : H} (e : hgB h = true) : HG h := by
  unfold hgB at e
  simp only [Bool.and_eq_true] at e
  obtain ⟨⟨e1, e2⟩, e3⟩ := e
  cases hb : h.blk 0 with
  | none => rw [hb] at e3; cases e3
  | some b =>
    rw [hb] at e3
    simp only at e3
    cases hl : b.loadN 0 8 with
    | none => rw [hl] at e3; cases e3
    | some l =>
      rw [hl] at e3
      exact ⟨Nat.blt_eq.mp e1, Nat.blt_eq.mp e2, b, hb, by rw [hl, beqCL_eq _ _ e3]; rfl⟩
def bcF : List Nat → List CV
  | [] => []
  | n :: l => fz n fun n => u8 n :: bcF l
theorem bcF_eq : ∀ l, bcF l = bc l
  | [] => rfl
  | n :: l => by simp only [bcF, fz_eq, bcF_eq l]; rfl
/-- the hash is told -/
def shaS : Sums := fun f args h => cond (Nat.beq f 181) (match args with
  | [v] => cond (hgB h) ((bytesV h v).bind fun xs => cond (Nat.ble xs.length 100000) (some (.agg (bcF (digestN xs)), none)) none) none
  | _ => none) none
theorem shaS_ok (hP : plainB Tryz.prog = true) (hm : Tryz.prog.follows .mixedOrders = true) : SumOk Tryz.prog shaS := by
  intro f args h v x e
  unfold shaS at e
  cases hf : Nat.beq f 181 with
  | false => rw [hf] at e; cases e
  | true =>
    rw [hf, cond_true] at e
    have := Nat.eq_of_beq_eq_true hf
    subst this
    split at e
    · rename_i v0
      cases hg : hgB h with
      | false => rw [hg] at e; cases e
      | true =>
        rw [hg, cond_true] at e
        obtain ⟨xs, hxs, e⟩ := Option.bind_eq_some_iff.1 e
        cases hl : Nat.ble xs.length 100000 with
        | false => rw [hl] at e; cases e
        | true =>
          rw [hl, cond_true] at e
          simp only [Option.some.injEq, Prod.mk.injEq] at e
          obtain ⟨rfl, rfl⟩ := e
          obtain ⟨B, h256⟩ := bytesV_bv hxs
          have hr : (lim Tryz.prog noSums).call 181 [v0] h = some (.agg (bc (digest xs)), none) := sum_run (fun _ _ _ => rfl) B (hgB_hg hg) (Nat.ble_eq.mp hl)
          rw [bcF_eq, digestN_eq xs h256]
          obtain ⟨k, hk⟩ := lim_call_some hr
          exact (all_sound (noSums_ok Tryz.prog) (plain_of hP) hm k).2.2.1 _ _ _ _ _ hk
    · cases e
theorem tru_says {P : Program} {σ : Sums} {k : Nat} {g : FuncId} {h : H} (e : saysTrue (callK P σ k g [] h) = true) : Tru ((lim P σ).call g [] h) := by
  unfold saysTrue at e
  split at e
  · rename_i x hx
    exact ⟨x, lim_of_callK hx⟩
  · cases e
end
end Go.Cl.Sh

namespace Go.Cl.Sh
noncomputable section
open Go.RowKit

def memoGet : List (FuncId × List CV × CV) → FuncId → List CV → Option CV
  | [], _, _ => none
  | e :: l, f, a => cond (Nat.beq f e.1) (cond (beqCL a e.2.1) (some e.2.2) (memoGet l f a)) (memoGet l f a)
def memoS (L : List (FuncId × List CV × CV)) : Sums := fun f args h => match memoGet L f args with
  | some v => cond (hgB h) (some (v, none)) none
  | none => none
def okE (P : Program) (σ : Sums) (k : Nat) (e : FuncId × List CV × CV) : Bool :=
  (match callK P σ k e.1 e.2.1 (tabH .u32 startV) with
   | some (v, _) => beqC v e.2.2
   | none => false) && okBL 0 e.2.1 && okB 0 e.2.2
def MOk (P : Program) (σ : Sums) (k : Nat) : List (FuncId × List CV × CV) → Prop
  | [] => True
  | e :: l => okE P σ k e = true ∧ MOk P σ k l
theorem memo_mem {P : Program} {σ : Sums} {k : Nat} : ∀ {L : List (FuncId × List CV × CV)} {f : FuncId} {a : List CV} {v : CV}, MOk P σ k L → memoGet L f a = some v → ∃ e, e.1 = f ∧ e.2.1 = a ∧ e.2.2 = v ∧ okE P σ k e = true
  | [], _, _, _, _, h => by cases h
  | e :: l, f, a, v, m, h => by
    simp only [memoGet] at h
    cases h1 : Nat.beq f e.1 with
    | false => rw [h1] at h; exact memo_mem m.2 h
    | true =>
      rw [h1, cond_true] at h
      cases h2 : beqCL a e.2.1 with
      | false => rw [h2] at h; exact memo_mem m.2 h
      | true =>
        rw [h2, cond_true] at h
        cases h
        exact ⟨e, (Nat.eq_of_beq_eq_true h1).symm, (beqCL_eq _ _ h2).symm, rfl, m.1⟩
theorem tab_rel {h : H} {f : Val} {w : World} (e : hgB h = true) (r : Rel f h w) : ∃ f0, Rel f0 (tabH .u32 startV) w ∧ ∀ id o, (tabH .u32 startV).t.get id = some o → o.ro = true := by
  unfold hgB at e
  simp only [Bool.and_eq_true] at e
  obtain ⟨⟨e1, e2⟩, e3⟩ := e
  cases hb : h.blk 0 with
  | none => rw [hb] at e3; cases e3
  | some b =>
    rw [hb] at e3
    simp only at e3
    cases hl : b.loadN 0 8 with
    | none => rw [hl] at e3; cases e3
    | some l =>
      rw [hl] at e3
      have hl2 := beqCL_eq _ _ e3
      subst hl2
      obtain ⟨_, hz, hzb⟩ := r.glob 0 (Nat.blt_eq.mp e1)
      obtain ⟨_, cs, t, fr, hw, B⟩ := r.blk hb
      rw [hz] at hw
      obtain ⟨_, hg⟩ := loadN_spec hl
      have key : ∀ (i : Nat) (x : Int), startV[i]? = some x → cs[i]? = some (Value.int .u32 x) := fun i x hi => by
        have hi8 : i < 8 := (List.getElem?_eq_some_iff.1 hi).1
        have h1 := hg i hi8
        rw [Nat.zero_add, List.getElem?_map, hi] at h1
        have hlt := Blk.get_lt h1
        obtain ⟨v, q1, _, _, q4⟩ := B.cell i hlt
        rw [h1] at q1
        cases q1
        rw [hzb, Nat.zero_add] at q4
        rw [q4]; simp [ren]
      have hsz : startV.length ≤ cs.size := by
        have := key 7 1541459225 rfl
        have := (Array.getElem?_eq_some_iff.1 this).1
        show 8 ≤ cs.size
        omega
      obtain ⟨f0, r0, a0, _⟩ := rel1 (k := .u32) (vals := startV) hw hsz key
      exact ⟨f0, r0, a0⟩
theorem memo_ok {P : Program} {σ : Sums} {k : Nat} {L : List (FuncId × List CV × CV)} (hP : plainB P = true) (hm : P.follows .mixedOrders = true) (hσ : SumOk P σ) (hL : MOk P σ k L) : SumOk P (memoS L) := by
  intro g args h v x e
  unfold memoS at e
  cases hq : memoGet L g args with
  | none => rw [hq] at e; cases e
  | some v0 =>
    rw [hq] at e
    simp only at e
    cases hg : hgB h with
    | false => rw [hg] at e; cases e
    | true =>
      rw [hg, cond_true] at e
      cases e
      obtain ⟨en, rfl, rfl, rfl, hok⟩ := memo_mem hL hq
      unfold okE at hok
      simp only [Bool.and_eq_true] at hok
      obtain ⟨⟨h1, h2⟩, h3⟩ := hok
      cases hc : callK P σ k en.1 en.2.1 (tabH .u32 startV) with
      | none => rw [hc] at h1; cases h1
      | some p =>
        obtain ⟨v1, x1⟩ := p
        rw [hc] at h1
        have := beqC_eq _ _ h1
        subst this
        rw [callK_eq] at hc
        obtain ⟨a1, a2⟩ := (all_sound hσ (plain_of hP) hm k).2.2.1 _ _ _ _ _ hc
        refine ⟨a1, fun f w r oa => ?_⟩
        obtain ⟨f0, r0, hro⟩ := tab_rel hg r
        have o0 := okL_of_okB _ h2
        have hr : renL f0 en.2.1 = renL f en.2.1 := renL_congr (n := 0) (fun i hi => absurd hi (Nat.not_lt_zero i)) _ o0
        have c := a2 f0 w r0 (okL_mono (Nat.zero_le _) _ o0)
        rw [hr] at c
        refine CallsIn.mono c fun e' w' hp => ?_
        obtain ⟨f', rfl, st, _, _⟩ := hp
        have ov := ok_of_okB _ h3
        have hk : Keeps w w' := ⟨st.os, st.tape, st.output, st.size, fun j hj => st.frame j hj fun id o ho hr' => by
          rw [hro id o ho] at hr'; cases hr'⟩
        refine ⟨f, ?_, Step.keeps r hk, ok_mono (Nat.zero_le _) _ ov, fun _ => rfl⟩
        rw [ren_congr (f := f') (g := f) (n := 0) (fun i hi => absurd hi (Nat.not_lt_zero i)) _ ov]
end
end Go.Cl.Sh
