/-
  SHA-512/256, as a function of numbers.
-/
import Derived.Test.YtoinombhonbibaaGreatDoorAeW1
set_option linter.unusedSimpArgs false
set_option linter.unusedVariables false
set_option linter.unusedSectionVars false
namespace Go.AE
def wordN (l : List Nat) : Nat := l.foldl (fun w b => bor (Nat.mod (Nat.mul w 256) 18446744073709551616) (Nat.mod b 18446744073709551616)) 0
def sigA (x : Nat) : Nat := bxor (bxor (rotr x 1) (rotr x 8)) (Nat.div x 128)
def sigB (y : Nat) : Nat := bxor (bxor (rotr y 19) (rotr y 61)) (Nat.div y 64)
def nextW : List Nat → Nat
  | _ :: a2 :: _ :: _ :: _ :: _ :: a7 :: _ :: _ :: _ :: _ :: _ :: _ :: _ :: a15 :: a16 :: _ => badd (badd (badd (sigB a2) a7) (sigA a15)) a16
  | _ => 0
/-- the words, the last one first. -/
def sched : Nat → List Nat → List Nat
  | 0, l => l
  | n + 1, l => forceN (nextW l) fun w => sched n (w :: l)
def wordsOf : Nat → List Nat → List Nat
  | 0, _ => []
  | n + 1, b => wordN (b.take 8) :: wordsOf n (b.drop 8)
def spreadN (b : List Nat) : List Nat := (sched 64 (wordsOf 16 b).reverse).reverse
def bigE (e : Nat) : Nat := bxor (bxor (rotr e 14) (rotr e 18)) (rotr e 41)
def bigA (a : Nat) : Nat := bxor (bxor (rotr a 28) (rotr a 34)) (rotr a 39)
def chN (e f g : Nat) : Nat := bxor (band e f) (band (bnot e) g)
def majN (a b c : Nat) : Nat := bxor (bxor (band a b) (band a c)) (band b c)
def roundsN : List Nat → List Nat → Nat → Nat → Nat → Nat → Nat → Nat → Nat → Nat → List Nat
  | k :: ks, w :: ws, a, b, c, d, e, f, g, h =>
    forceN (badd (badd (badd (badd h (bigE e)) (chN e f g)) k) w) fun t1 =>
    forceN (badd t1 (badd (bigA a) (majN a b c))) fun x =>
    forceN (badd d t1) fun y => roundsN ks ws x a b c y e f g
  | _, _, a, b, c, d, e, f, g, h => [a, b, c, d, e, f, g, h]
def rounds8 (ks ws : List Nat) : List Nat → List Nat
  | [a, b, c, d, e, f, g, h] => roundsN ks ws a b c d e f g h
  | _ => []
def shaK : List Nat := [4794697086780616226, 8158064640168781261, 13096744586834688815, 16840607885511220156, 4131703408338449720, 6480981068601479193, 10538285296894168987, 12329834152419229976, 15566598209576043074, 1334009975649890238, 2608012711638119052, 6128411473006802146, 8268148722764581231, 9286055187155687089, 11230858885718282805, 13951009754708518548, 16472876342353939154, 17275323862435702243, 1135362057144423861, 2597628984639134821, 3308224258029322869, 5365058923640841347, 6679025012923562964, 8573033837759648693, 10970295158949994411, 12119686244451234320, 12683024718118986047, 13788192230050041572, 14330467153632333762, 15395433587784984357, 489312712824947311, 1452737877330783856, 2861767655752347644, 3322285676063803686, 5560940570517711597, 5996557281743188959, 7280758554555802590, 8532644243296465576, 9350256976987008742, 10552545826968843579, 11727347734174303076, 12113106623233404929, 14000437183269869457, 14369950271660146224, 15101387698204529176, 15463397548674623760, 17586052441742319658, 1182934255886127544, 1847814050463011016, 2177327727835720531, 2830643537854262169, 3796741975233480872, 4115178125766777443, 5681478168544905931, 6601373596472566643, 7507060721942968483, 8399075790359081724, 8693463985226723168, 9568029438360202098, 10144078919501101548, 10430055236837252648, 11840083180663258601, 13761210420658862357, 14299343276471374635, 14566680578165727644, 15097957966210449927, 16922976911328602910, 17689382322260857208, 500013540394364858, 748580250866718886, 1242879168328830382, 1977374033974150939, 2944078676154940804, 3659926193048069267, 4368137639120453308, 4836135668995329356, 5532061633213252278, 6448918945643986474, 6902733635092675308, 7801388544844847127]
def shaH : List Nat := [7640891576956012808, 13503953896175478587, 4354685564936845355, 11912009170470909681, 5840696475078001361, 11170449401992604703, 2270897969802886507, 6620516959819538809]
def takeN (h b : List Nat) : List Nat := forceL (spreadN b) fun w => forceL (rounds8 shaK w h) fun v => List.zipWith badd h v
/-- the eight bytes of a word. -/
def layN (w : Nat) : List Nat := [w / 2 ^ 56 % 256, w / 2 ^ 48 % 256, w / 2 ^ 40 % 256, w / 2 ^ 32 % 256, w / 2 ^ 24 % 256, w / 2 ^ 16 % 256, w / 2 ^ 8 % 256, w % 256]
/-- how many zero bytes fill a text of so many bytes and one more. -/
def fillZ (n : Nat) : Nat := (239 - n % 128) % 128
def filledN (b : List Nat) : List Nat := b ++ 128 :: (List.replicate (fillZ b.length) 0 ++ (layN (b.length / 2 ^ 61) ++ layN (b.length * 8 % 18446744073709551616)))
def blocksN : Nat → List Nat → List Nat → List Nat
  | 0, h, _ => h
  | n + 1, h, b => match b with
    | [] => h
    | _ :: _ => forceL (takeN h (b.take 128)) fun h => blocksN n h (b.drop 128)
def digestN (h b : List Nat) : List Nat := blocksN (b.length / 128 + 2) h (filledN b)
def bytesOfN (h : List Nat) : List Nat := (h.map layN).flatten
def shaFirst : List Nat := wordsOf 8 (bytesOfN (digestN (shaH.map fun w => bxor w 11936128518282651045) [83, 72, 65, 45, 53, 49, 50, 47, 50, 53, 54]))
/-- the same, worked out. -/
def shaBegin : List Nat := [2463787394917988140, 11481187982095705282, 2563595384472711505, 10824532655140301501, 10819967247969091555, 13717434660681038226, 3098927326965381290, 1060366662362279074]
def sha256N (b : List Nat) : List Nat := (bytesOfN (digestN shaBegin b)).take 32
end Go.AE

/-
  SHA-256, as a function of numbers.
-/
namespace Go.AE
def add3 (a b : Nat) : Nat := Nat.mod (Nat.add a b) 4294967296
def and3 (a b : Nat) : Nat := Nat.mod (Nat.land (Nat.mod a 4294967296) (Nat.mod b 4294967296)) 4294967296
def or3 (a b : Nat) : Nat := Nat.mod (Nat.lor (Nat.mod a 4294967296) (Nat.mod b 4294967296)) 4294967296
def xor3 (a b : Nat) : Nat := Nat.mod (Nat.xor (Nat.mod a 4294967296) (Nat.mod b 4294967296)) 4294967296
def not3 (a : Nat) : Nat := xor3 4294967295 a
def rot3 (x n : Nat) : Nat := or3 (Nat.mod (Nat.mul x (Nat.pow 2 (Nat.sub 32 n))) 4294967296) (Nat.div x (Nat.pow 2 n))
/-- the xor of a number, turned to the right so often each. -/
def turnN (x : Nat) : List Nat → Nat → Nat
  | [], y => y
  | n :: r, y => turnN x r (xor3 y (rot3 x n))
def sig3A (x : Nat) : Nat := xor3 (turnN x [7, 18] 0) (Nat.div x 8)
def sig3B (y : Nat) : Nat := xor3 (turnN y [17, 19] 0) (Nat.div y 1024)
/-- the next one behind numbers, the last one first. -/
def next3 : List Nat → Nat
  | _ :: a2 :: _ :: _ :: _ :: _ :: a7 :: _ :: _ :: _ :: _ :: _ :: _ :: _ :: a15 :: a16 :: _ => add3 (add3 (add3 a16 (sig3A a15)) a7) (sig3B a2)
  | _ => 0
def sched3 : Nat → List Nat → List Nat
  | 0, l => l
  | n + 1, l => forceN (next3 l) fun w => sched3 n (w :: l)
def word3 (l : List Nat) : Nat := match l with
  | a :: b :: c :: d :: _ => or3 (or3 (or3 d (Nat.mod (Nat.mul c 256) 4294967296)) (Nat.mod (Nat.mul b 65536) 4294967296)) (Nat.mod (Nat.mul a 16777216) 4294967296)
  | _ => 0
def words3 : Nat → List Nat → List Nat
  | 0, _ => []
  | n + 1, b => word3 (b.take 4) :: words3 n (b.drop 4)
def spread3 (b : List Nat) : List Nat := (sched3 48 (words3 16 b).reverse).reverse
def big3E (e : Nat) : Nat := turnN e [6, 11, 25] 0
def big3A (a : Nat) : Nat := turnN a [2, 13, 22] 0
def ch3 (e f g : Nat) : Nat := or3 (and3 e f) (and3 (not3 e) g)
def maj3 (a b c : Nat) : Nat := or3 (or3 (and3 a b) (and3 a c)) (and3 b c)
/-- one round, with what is to be added. -/
def round3 (add : Nat) : List Nat → List Nat
  | [a, b, c, d, e, f, g, h] =>
    forceN (add3 (add3 (add3 h (big3E e)) (ch3 e f g)) add) fun t =>
    forceN (add3 t (add3 (big3A a) (maj3 a b c))) fun x =>
    forceN (add3 d t) fun y => [x, a, b, c, y, e, f, g]
  | l => l
def rounds3 : List Nat → List Nat → List Nat → List Nat
  | k :: ks, w :: ws, s => forceL (round3 (add3 k w) s) fun s => rounds3 ks ws s
  | _, _, s => s
def sha3K : List Nat := [1116352408, 1899447441, 3049323471, 3921009573, 961987163, 1508970993, 2453635748, 2870763221, 3624381080, 310598401, 607225278, 1426881987, 1925078388, 2162078206, 2614888103, 3248222580, 3835390401, 4022224774, 264347078, 604807628, 770255983, 1249150122, 1555081692, 1996064986, 2554220882, 2821834349, 2952996808, 3210313671, 3336571891, 3584528711, 113926993, 338241895, 666307205, 773529912, 1294757372, 1396182291, 1695183700, 1986661051, 2177026350, 2456956037, 2730485921, 2820302411, 3259730800, 3345764771, 3516065817, 3600352804, 4094571909, 275423344, 430227734, 506948616, 659060556, 883997877, 958139571, 1322822218, 1537002063, 1747873779, 1955562222, 2024104815, 2227730452, 2361852424, 2428436474, 2756734187, 3204031479, 3329325298]
def sha3H : List Nat := [1779033703, 3144134277, 1013904242, 2773480762, 1359893119, 2600822924, 528734635, 1541459225]
/-- a state behind a chunk. -/
def change3 (s b : List Nat) : List Nat := forceL (spread3 b) fun w => forceL (rounds3 sha3K w s) fun v => List.zipWith add3 v s
/-- how many zero bytes stand in the closing of so many bytes. -/
def noughts3 (n : Nat) : Nat := (119 - n % 64) % 64
def closing3 (n : Nat) : List Nat := 128 :: (List.replicate (noughts3 n) 0 ++ layN (n * 8 % 18446744073709551616))
def lay3 (w : Nat) : List Nat := [w / 2 ^ 24 % 256, w / 2 ^ 16 % 256, w / 2 ^ 8 % 256, w % 256]
def chunks3 : Nat → List Nat → List Nat → List Nat
  | 0, s, _ => s
  | n + 1, s, b => match b with
    | [] => s
    | _ :: _ => forceL (change3 s (b.take 64)) fun s => chunks3 n s (b.drop 64)
def digest3 (s : List Nat) (gone : Nat) (rest : List Nat) : List Nat := ((chunks3 (rest.length / 64 + 2) s (rest ++ closing3 (gone + rest.length))).map lay3).flatten
def sum3 (b : List Nat) : List Nat := digest3 sha3H 0 b
end Go.AE
