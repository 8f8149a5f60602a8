import Derived.Test.YtjbgjfikgpffmaaGreatM2
import Derived.OpenShut
import Derived.ShutString
import Derived.ChangeOld
import Derived.ProofKit
import Derived.WalkKit
set_option linter.all false
set_option autoImplicit true
set_option relaxedAutoImplicit true
set_option maxRecDepth 100000
namespace Go.Am
open List
open Go.Proofs.Tryz
variable{E:Nat->Sm}{k:Nat}{H:Hp}{Q:Post}{U X Y Z u w x x1 y z:Pl}{D L M N O l m n n1 o:Nat}{I g h i j:Int}{C b b1 b2 c d:Bool}{R S e r s t:ByteArray}{A a:Option Nat}{p q:List (Nat×Nat)}{F:Sm}
def aR_.cx:Cx:=⟨tys,[],[(2000000,[0])],[],[],aw_,[.tmp 6]⟩
def aR_:=fF aR_.cx f228
theorem h4_:as_ aR_.cx f228 (k+1) [nL x n 1,i,j] H Q=ct 0 (nI n) (dq 0 j (leI 0 i) (chk (leN (tN i) (tN j)&&(leN (tN j) (tN (nI n))&&(leN (tN (nI n)) n&&n3_ H x (tN (nI n)*1)))) (bj i j (dN Q x n 1 H) (ct 0 i (fk (leN 0 (tN i)&&(leN (tN i) n||kr_ H x (tN i*1))) (dq 0 j (leN (tN j) n) (aR (cZ H (shf x (tN j*1)) ((n-tN j)*1) H 9 1 16 (shf x 0) (tN i-0) (n-tN j) (λa b c=>ct 0 (nI n) (dq 0 (nI b) (leN (tN (nI b)) (tN (nI n))&&(leN (tN (nI n)) b||kr_ c a (tN (nI n)*1))) (aR (clr c (shf a (tN (nI b)*1)) (tN (nI n)-tN (nI b)) [.str (mkS [])] (λc=>dN Q a b 1 c))))))))))))):=zz
theorem ft_:am_ prog 228 (aR_):=sO eN nO func228
def dl_.cx:Cx:=⟨tys,[],[],[(4,[5,6,7])],[(227,e5_)],aw_,[.cell 6 100]⟩
def dl_:=fF dl_.cx f246
def dl_.l4 k a b c d e f g h i j l m n o p q r s t u v w x y:=aS_ (dl_.cx) f246 4 k (B 5 (.bx [.bool a,.bool b,.sl c d 1,.sl e f 1,.sl g h 1]::.bx [.bool i,.bool j,.sl l m 1,.sl n o 1,.sl p q 1]::.bx [.bool r,.bool s,.sl t u 1,.sl v w 1,.sl x y 1]::B 30 []))
theorem zl_:as_ dl_.cx f246 (k+1) [.agg [b,c,.sl x n 1,.sl y m 1,.sl z l 1],s,.agg [C,d,.sl u o 1,.sl w N 1,.sl X M 1]] H Q=bm e5_ [.agg [b,c,.sl x n 1,.sl y m 1,.sl z l 1]] H λa b=>cC b 1 1 1 λb e f g h i j l=>aC c (dO a 9 1 16 f g [s] (λa c f=>dl_.l4 k C d u o w N X M false false none 0 none 0 none 0 b e a c h i j l f Q)) (dl_.l4 k C d u o w N X M false false none 0 none 0 none 0 b e f g h i j l a Q):=zz
theorem dl_.l4_eq:dl_.l4 (k+1) b c x n y m z l C d u o w N X M b1 b2 Y L Z O U D H Q=aR (cZ H x (n*1) H 9 1 16 Y L n (λa b c=>aR (cZ c y (m*1) c 9 1 16 Z O m (λc d e=>aR (cZ e z (l*1) e 3 1 8 U D l (λe f g=>eM Q [b1,b2,.sl a b 1,.sl c d 1,.sl e f 1] g)))))):=zz
theorem rK_:am_ prog 246 (dl_):=sO (eZ lG_ func227 eN) nO func246
def bH_.cx:Cx:=⟨tys,[],[],[],[],aw_,[.tmp 2]⟩
def bH_:=fF bH_.cx f269
theorem iL_:as_ bH_.cx f269 (k+1) [nL x n 1] H Q=ct 0 (nI n) (dq 0 (nI n) (leN 0 (tN (nI n))&&(leN (tN (nI n)) (tN (nI n))&&(leN (tN (nI n)) n&&n3_ H x (tN (nI n)*1)))) (dN Q (shf x 0) (tN (nI n)-0) 1 H)):=zz
theorem iF_:am_ prog 269 (bH_):=sO eN nO func269
def cU_.cx:Cx:=⟨tys,[],[],[],[],aw_,[.tmp 2]⟩
def cU_:=fF cU_.cx f270
theorem lr_:as_ cU_.cx f270 (k+1) [nL x n 1] H Q=ct 0 (nI n) (dq 0 (nI n) (leN 0 (tN (nI n))&&(leN (tN (nI n)) (tN (nI n))&&(leN (tN (nI n)) n&&n3_ H x (tN (nI n)*1)))) (dN Q (shf x 0) (tN (nI n)-0) 1 H)):=zz
theorem lt_:am_ prog 270 (cU_):=sO eN nO func270
def iv_.cx:Cx:=⟨tys,[],[],[],[(268,hd_),(246,dl_),(269,bH_),(270,cU_)],aw_,[.cell 6 100,.tmp 7]⟩
def iv_:=fF iv_.cx f244
theorem z4_:as_ iv_.cx f244 (k+1) [.agg [b,c,.sl x n 1,.sl y m 1,.sl z l 1],s,.agg [C,d,.sl u o 1,.sl w N 1,.sl X M 1]] H Q=eg hd_ [.agg [b,c,.sl x n 1,.sl y m 1,.sl z l 1]] H Q [.a [false,false,.sl none 0 1,.sl none 0 1,.sl none 0 1],nN 900] hd_ [.agg [C,d,.sl u o 1,.sl w N 1,.sl X M 1]] Q λa=>aL (eqB c d) Q [.a [false,false,.sl none 0 1,.sl none 0 1,.sl none 0 1],nN 900] a (bm dl_ [.agg [b,c,.sl x n 1,.sl y m 1,.sl z l 1],s,.agg [C,d,.sl u o 1,.sl w N 1,.sl X M 1]] a (λa b=>cC b 1 1 1 λb c d e f g h i=>aM hd_ [.agg [b,c,.sl d e 1,.sl f g 1,.sl h i 1]] a Q [.a [false,false,.sl none 0 1,.sl none 0 1,.sl none 0 1],nN 900] λa=>aE bH_ [nL d e 1] a 1 λa d e=>aE bH_ [nL f g 1] a 1 λa f g=>aE cU_ [nL h i 1] a 1 λa h i=>ax Q [.a [b,c,.sl d e 1,.sl f g 1,.sl h i 1],nN 0] a)):=zz
theorem zY_:am_ prog 244 (iv_):=sO (eZ tY_ func268 (eZ rK_ func246 (eZ iF_ func269 (eZ lt_ func270 eN)))) nO func244
def cc_.cx:Cx:=⟨tys,[],[(2000000,[0])],[],[],aw_,[.tmp 6]⟩
def cc_:=fF cc_.cx f245
theorem km_:as_ cc_.cx f245 (k+1) [nL x n 1,i,j] H Q=ct 0 (nI n) (dq 0 j (leI 0 i) (chk (leN (tN i) (tN j)&&(leN (tN j) (tN (nI n))&&(leN (tN (nI n)) n&&n3_ H x (tN (nI n)*1)))) (bj i j (dN Q x n 1 H) (ct 0 i (fk (leN 0 (tN i)&&(leN (tN i) n||kr_ H x (tN i*1))) (dq 0 j (leN (tN j) n) (aR (cZ H (shf x (tN j*1)) ((n-tN j)*1) H 3 1 8 (shf x 0) (tN i-0) (n-tN j) (λa b c=>ct 0 (nI n) (dq 0 (nI b) (leN (tN (nI b)) (tN (nI n))&&(leN (tN (nI n)) b||kr_ c a (tN (nI n)*1))) (aR (clr c (shf a (tN (nI b)*1)) (tN (nI n)-tN (nI b)) [.int .i64 0] (λc=>dN Q a b 1 c))))))))))))):=zz
theorem kl_:am_ prog 245 (cc_):=sO eN nO func245
def hV_.cx:Cx:=⟨tys,[],[],[],[(227,e5_)],aw_,[.cell 4 100,.tmp 5,.cell 6 100]⟩
def hV_:=fF hV_.cx f247
theorem Bw_:as_ hV_.cx f247 (k+1) [.agg [b,c,.sl x n 1,.sl y m 1,.sl z l 1],i] H Q=bo (leI 0 i&&ltI i (nI n)) x H (tN i*1) λa d e=>bm e5_ [.agg [b,c,.sl x n 1,.sl y m 1,.sl z l 1]] H λf g=>cC g 1 1 1 λg h j o p q r s=>ah f a (d+tN i*1) λt=>eqv e t (bm e5_ [.agg [b,c,.sl x n 1,.sl y m 1,.sl z l 1]] f (λb f=>cC f 1 1 1 λf l m n t u v w=>ah b a (d+tN i*1) λa=>eqv e a (ct 0 i (chk (leN 0 (tN i)&&(leN (tN i) o||kr_ b j (tN i*1))) (cj_ c (ct 0 i (fk (leN 0 (tN i)&&(leN (tN i) q||kr_ b p (tN i*1))) (dq 0 i (leN (tN i) n) (ct 0 i (chk (leN (tN i) u) (ax Q [.a [g,h,.sl (shf j 0) (tN i-0) 1,.sl (shf p 0) (tN i-0) 1,.sl r s 1],e,.a [f,l,.sl (shf m (tN i*1)) (n-tN i) 1,.sl (shf t (tN i*1)) (u-tN i) 1,.sl v w 1]] b)))))) (ct 0 (ad_ .i64 (i+1)) (fk (leN 0 (tN (ad_ .i64 (i+1)))&&(leN (tN (ad_ .i64 (i+1))) s||kr_ b r (tN (ad_ .i64 (i+1))*1))) (dq 0 (ad_ .i64 (i+1)) (leN (tN (ad_ .i64 (i+1))) n) (ct 0 (ad_ .i64 (i+1)) (chk (leN (tN (ad_ .i64 (i+1))) w) (ax Q [.a [g,h,.sl (shf j 0) (tN i-0) 1,.sl p q 1,.sl (shf r 0) (tN (ad_ .i64 (i+1))-0) 1],e,.a [f,l,.sl (shf m (tN (ad_ .i64 (i+1))*1)) (n-tN (ad_ .i64 (i+1))) 1,.sl t u 1,.sl (shf v (tN (ad_ .i64 (i+1))*1)) (w-tN (ad_ .i64 (i+1))) 1]] b))))))))))):=zz
theorem ub_:am_ prog 247 (hV_):=sO (eZ lG_ func227 eN) nO func247
def dD_.cx:Cx:=⟨tys,[],[],[],[(244,iv_),(228,aR_),(245,cc_),(246,dl_),(247,hV_)],aw_,[]⟩
def dD_:=fF dD_.cx f229
theorem oe_:as_ dD_.cx f229 (k+1) [x,y,i] H Q=pS y λa b=>dt H a (b+4) 1 0 i i H (tN i*1) λa=>pS y λb c=>dt H b (c+4) 1 0 (ad_ .i64 (i+1)) (ad_ .i64 (i+1)) H (tN (ad_ .i64 (i+1))*1) λb=>cG x H 5 0 a a λc d=>aD H c (d+tN a*5) λe=>aD H c (d+tN a*5+1) λf=>bh H c (d+tN a*5+1+1) 1 H c (d+tN a*5+1+1+1) 1 λg h j l=>dW H c (d+tN a*5+1+1+1+1) λc d=>eu y H 1 0 i i λm n=>ah H m (n+tN i*1) λm=>cG x H 5 0 b b λn o=>aD H n (o+tN b*5) λp=>aD H n (o+tN b*5+1) λq=>bh H n (o+tN b*5+1+1) 1 H n (o+tN b*5+1+1+1) 1 λr s t u=>dW H n (o+tN b*5+1+1+1+1) λn o=>bf iv_ [.agg [e,f,.sl g h 1,.sl j l 1,.sl c d 1],m,.agg [p,q,.sl r s 1,.sl t u 1,.sl n o 1]] H λc d e=>cC e 1 1 1 λe f g h j l m n=>bg d λd=>bj d 0 (bw x c 5 (λd o=>bw x c 5 λp q=>bH (leI 0 a&&ltI a (nI o)) d c (tN a*5) e (tN a*5) f (tN a*5) (.sl g h 1) (tN a*5) (.sl j l 1) (tN a*5) (.sl m n 1) λa=>bH (leI 0 b&&ltI b (nI q)) p a (tN b*5) false (tN b*5) false (tN b*5) (.sl none 0 1) (tN b*5) (.sl none 0 1) (tN b*5) (.sl none 0 1) λa=>cI y a 1 λb c=>pS y λd e=>dW a d (e+4) λf g=>aE aR_ [nL b c 1,i,ad_ .i64 (i+1)] a 1 λa b c=>cE a d (e+4) 1 (nL f g 1) (aE cc_ [nL f g 1,ad_ .i64 (i+1),ad_ .i64 (i+2)] a 1 (λa d e=>pS y λf g=>dx a f (g+2) b c 1 λa=>pS y λb c=>br a b (c+4) (.sl d e 1) Q [])))) (cG x c 5 0 a a (λd e=>aD c d (e+tN a*5) λf=>aD c d (e+tN a*5+1) λg=>bh c d (e+tN a*5+1+1) 1 c d (e+tN a*5+1+1+1) 1 λh j l m=>dW c d (e+tN a*5+1+1+1+1) λd e=>eu y c 1 0 i i λn o=>ah c n (o+tN i*1) λn=>cG x c 5 0 b b λo p=>aD c o (p+tN b*5) λq=>aD c o (p+tN b*5+1) λr=>bh c o (p+tN b*5+1+1) 1 c o (p+tN b*5+1+1+1) 1 λs t u v=>dW c o (p+tN b*5+1+1+1+1) λo p=>bm dl_ [.agg [f,g,.sl h j 1,.sl l m 1,.sl d e 1],n,.agg [q,r,.sl s t 1,.sl u v 1,.sl o p 1]] c λc d=>cC d 1 1 1 λd e f g h j l m=>dv x c 5 λn o p q=>pS y λr s=>dW c r (s+2) λt u=>dv x c 5 λv w x y=>bf hV_ [.agg [d,e,.sl f g 1,.sl h j 1,.sl l m 1],ad_ .i64 (Int.tdiv (nI g) 2)] c λc d e=>cC e 1 1 1 λe f g h j l m z=>af d λd A=>dS A λA=>aZ d λd C=>cC C 1 1 1 λC D F G I J L M=>uE d (bN c v (w+0) 5 (nL x y 5) (cE c r (s+2) 1 (nL t u 1) (bN c n (o+0) 5 (nL p q 5) (bH (leI 0 a&&ltI a (nI q)) p c (tN a*5) e (tN a*5) f (tN a*5) (.sl g h 1) (tN a*5) (.sl j l 1) (tN a*5) (.sl m z 1) (λa=>aB (leI 0 i&&ltI i (nI u)) t λc d=>wr a c (d+tN i*1) A λa=>bG (leI 0 b&&ltI b (nI y)) x a (tN b*5) C (tN b*5) D (tN b*5) (.sl F G 1) (tN b*5) (.sl I J 1) λa c d=>br d a (c+tN b*5+1+1+1+1) (.sl L M 1) Q []))))))):=zz
theorem nS_:am_ prog 229 (dD_):=sO (eZ zY_ func244 (eZ ft_ func228 (eZ kl_ func245 (eZ rK_ func246 (eZ ub_ func247 eN))))) nO func229
def a1_.cx S:=(⟨tys,[],[],[],[(226,cy_),(228,aR_),(225,gt_),(196,S),(229,dD_)],aw_,[]⟩:Cx)
def a1_.st S:=fF (a1_.cx S) f196
theorem om_:as_ (a1_.cx F) f196 (k+1) [x,i,s] H Q=cG x H 5 0 i i λa b=>dg H a (b+tN i*5+1) (dW H a (b+tN i*5+2) (λc d=>bz cy_ [nL c d 1,s] H λc d e=>aW d λd _=>uE d (bh c a (b+tN i*5+2) 1 c a (b+tN i*5+3) 1 (λd f g h=>aE aR_ [nL d f 1,e,ad_ .i64 (e+1)] c 1 λc d f=>cE c a (b+tN i*5+3) 1 (nL g h 1) (aE aR_ [nL g h 1,e,ad_ .i64 (e+1)] c 1 (λc e g=>aG c a (b+tN i*5+2) (.sl d f 1) a (b+tN i*5+3) (.sl e g 1) λa=>ax Q [] a)))))) (aH gt_ [.g (.ptr (some (a,b+tN i*5))),s] H (λc d=>dt c a (b+tN i*5+4) 1 0 d d c (tN d*1) λe=>cl F [x,e,s] c λ_ c=>bw x c 5 λe f=>dt c a (b+tN i*5+4) 1 0 d d c (tN d*1) λg=>aB (leI 0 g&&ltI g (nI f)) e λe f=>dW c e (f+tN g*5+2) λ_ e=>av (nI e) 2 (dW c a (b+tN i*5+2) (λ_ e=>dV dD_ [x,.g (.ptr (some (a,b+tN i*5))),mnI d (ad_ .i64 (nI e-1))] c Q [])) (ax Q [] c))):=zz
theorem a1_.st_ok(S:Sm)(hS:c8_ prog 196 S):am_ prog 196 (a1_.st S):=mg_.sound (cx:=a1_.cx S) rfl (eZ jq_ func226 (eZ ft_ func228 (eZ op_ func225 (dN_.cons hS (eZ nS_ func229 eN))))) nO func196 rfl
def a1_.at:Nat->Sm
 |0=>λ_ _ _=>False
 |n+1=>a1_.st (a1_.at n)
def a1_:Sm:=λxs H Q=>∃n,a1_.at n xs H Q
theorem a1_.at_ok:∀n,am_ prog 196 (a1_.at n)
 |0=>λ_ _ _ h=>h.elim
 |n+1=>a1_.st_ok _ ((a1_.at_ok n).c ⟨_,func196,by kernel_rfl,by kernel_rfl⟩)
theorem n6_:am_ prog 196 (a1_):=am_.ex (a1_.at_ok)
def dB_.cx:Cx:=⟨tys,[],[],[],[],aw_,[]⟩
def dB_:=fF dB_.cx f197
theorem nN_:as_ dB_.cx f197 (k+1) [x] H Q=bw x H 5 λa b=>bI (leI 0 0&&ltI 0 (nI b)) a H (tN 0*5) λa b _=>aD H a (b+tN 0*5+1) λc=>dW H a (b+tN 0*5+1+1) λ_ d=>dW H a (b+tN 0*5+1+1+1) λ_ _=>dW H a (b+tN 0*5+1+1+1+1) λa b=>aC c (bj (nI d) 0 (bw x H 5 (λc d=>bw x H 5 λe f=>aK (leI 0 0&&ltI 0 (nI b)) a H (tN 0*1) λg=>bw x H 5 λh i=>aK (leI 0 0&&ltI 0 (nI b)) a H (tN 0*1) λa=>cJ (leI 0 a&&ltI a (nI i)) h H (tN a*5) H (tN a*5) H (tN a*5) 1 H (tN a*5) 1 H (tN a*5) 1 (leI 0 0&&ltI 0 (nI d)) c H (tN 0*5) (tN 0*5) (tN 0*5) (tN 0*5) (tN 0*5) λa=>bG (leI 0 g&&ltI g (nI f)) e a (tN g*5) false (tN g*5) false (tN g*5) (.sl none 0 1) (tN g*5) (.sl none 0 1) λa b c=>br c a (b+tN g*5+1+1+1+1) (.sl none 0 1) Q [])) (ax Q [] H)) (ax Q [] H):=zz
theorem ne_:am_ prog 197 (dB_):=sO eN nO func197
def cY_.cx:Cx:=⟨tys,[25],[],[(8,[4,8,10,25])],[(194,do_),(195,cD_),(196,a1_),(197,dB_)],aw_,[.cell 4 24,.tmp 5,.tmp 6]⟩
def cY_:=fF cY_.cx f160
def cY_.l8 k a b c d e f g:=aS_ (cY_.cx) f160 8 k (B 4 (.bx [.sl a b 5]::B 3 (gB c::.bad::.g (.ptr (some (d,e)))::B 14 (.g (.ptr (some (f,g)))::B 12 []))))
theorem wN_:as_ cY_.cx f160 (k+1) [.agg [.sl x n 5],s] H Q=bQ do_ [.agg [.sl x n 5],s] H λa b _=>aW b λb c=>bg b λb=>bV b 0 Q [.a [.sl none 0 5],false,nN 1300] a (bR cD_ [.agg [.sl x n 5]] a 5 (λa b d=>cj_ c (cl a1_ [.g (.ptr (some (ln a,0))),nN 0,s] (pu a (.row true 242 [.sl b d 5])) (λ_ b=>cl dB_ [.g (.ptr (some (ln a,0)))] b λ_ b=>cY_.l8 k none 0 c (ln a) 0 (ln a) 0 b Q)) (cY_.l8 k none 0 c (ln a) 0 (ln a) 0 (pu a (.row true 242 [.sl b d 5])) Q))):=zz
theorem cY_.l8_eq:cY_.l8 (k+1) x n b m l o N H Q=aa H m (l+0) 5 λa c=>ax Q [.a [.sl a c 5],b,nN 0] H:=zz
theorem v1_:am_ prog 160 (cY_):=sO (eZ q2_ func194 (eZ pF_ func195 (eZ n6_ func196 (eZ ne_ func197 eN)))) nO func160
def bj_.cx E:=(⟨tys,[1],[],[],[],E,[.tmp 2]⟩:Cx)
def bj_ E:=fF (bj_.cx E) f162
theorem fM_:as_ (bj_.cx E) f162 (k+1) [.g (.map a)] H Q=cS Q (.fn 200 [(ln H,0)]) (pu H (.row true 206 [.map a])):=zz
theorem fL_(E)(h:eE E):am_ prog 162 (bj_ E):=sO eN h func162
def bL_.cx:Cx:=⟨tys,[],[(3,[3,9,10,11])],[],[],aw_,[.tmp 2]⟩
def bL_:=fF bL_.cx f204
def bL_.l3 k a b c d e:=aS_ (bL_.cx) f204 3 k (B 3 (gI a::B 5 (nL b c 5::gI d::gI e::B 12 [])))
theorem ra_:as_ bL_.cx f204 (k+1) [x] H Q=bw x H 5 λa b=>bL_.l3 k 0 a b (nI b) 0 H Q:=zz
theorem bL_.l3_eq:bL_.l3 (k+1) i x n j h H Q=av h j (bI (leI 0 h&&ltI h (nI n)) x H (tN h*5) (λa b _=>aD H a (b+tN h*5+1) λc=>dW H a (b+tN h*5+1+1) λ_ d=>dW H a (b+tN h*5+1+1+1) λ_ _=>dW H a (b+tN h*5+1+1+1+1) λ_ _=>cj_ c (bL_.l3 k (ad_ .i64 (i+nI d)) x n j (ad_ .i64 (h+1)) H Q) (bL_.l3 k i x n j (ad_ .i64 (h+1)) H Q))) (Q i H):=zz
theorem qV_:am_ prog 204 (bL_):=sO eN nO func204
def eC_.cx:Cx:=⟨tys,[],[],[],[],aw_,[]⟩
def eC_:=fF eC_.cx f341
theorem jl_:as_ eC_.cx f341 (k+1) [x,.g (.iface 3 (.int .i64 i))] H Q=co x H 1 λa b=>dX 3 (.iface 3 (.int .i64 i)) λc=>ai c λc=>dO H 3 1 8 a b [c] λa b c=>pS x λd e=>br c d e (.sl a b 1) Q []:=zz
theorem o3_:am_ prog 341 (eC_):=sO eN nO func341
def de_.cx:Cx:=⟨tys,[],[],[],[],aw_,[.tmp 2]⟩
def de_:=fF de_.cx f337
theorem jV_:am_ prog 337 (de_):=sO eN nO func337
def cI_.cx:Cx:=⟨tys,[],[],[],[],aw_,[.tmp 6]⟩
def cI_:=fF cI_.cx f338
theorem o5_:as_ cI_.cx f338 (k+1) [nL x n 1,i,j] H Q=aK (leI 0 i&&ltI i (nI n)) x H (tN i*1) λa=>aK (leI 0 j&&ltI j (nI n)) x H (tN j*1) λb=>cT Q (ltI a b) H:=zz
theorem jf_:am_ prog 338 (cI_):=sO eN nO func338
def cq_.cx:Cx:=⟨tys,[],[],[],[],aw_,[]⟩
def cq_:=fF cq_.cx f339
theorem o4_:as_ cq_.cx f339 (k+1) [nL x n 1,i,j] H Q=aK (leI 0 j&&ltI j (nI n)) x H (tN j*1) λa=>aK (leI 0 i&&ltI i (nI n)) x H (tN i*1) λb=>aB (leI 0 i&&ltI i (nI n)) x λc d=>wr H c (d+tN i*1) a λa=>aB (leI 0 j&&ltI j (nI n)) x λc d=>br a c (d+tN j*1) b Q []:=zz
theorem g4_:am_ prog 339 (cq_):=sO eN nO func339
def gh_.cx:Cx:=⟨tys,[],[(0,[0,1])],[],[(338,cI_),(339,cq_)],aw_,[]⟩
def gh_:=fF gh_.cx f234
def gh_.l0 k a b:=aS_ (gh_.cx) f234 0 k (.g (.iface 252 (.ptr a))::gI b::B 21 [])
theorem gh_.l0_eq:gh_.l0 (k+1) x i H Q=bj (ad_ .i64 (Int.tdiv (ad_ .i64 (i-1)) 2)) i (ax Q [] H) (co x H 1 (λa b=>aM cI_ [nL a b 1,i,ad_ .i64 (Int.tdiv (ad_ .i64 (i-1)) 2)] H Q [] λa=>co x a 1 λb c=>cl cq_ [nL b c 1,ad_ .i64 (Int.tdiv (ad_ .i64 (i-1)) 2),i] a λ_ a=>gh_.l0 k x (ad_ .i64 (Int.tdiv (ad_ .i64 (i-1)) 2)) a Q)):=zz
theorem Dj_:am_ prog 234 (gh_):=sO (eZ jf_ func338 (eZ g4_ func339 eN)) nO func234
def iq_.cx:Cx:=⟨tys,[],[],[],[(341,eC_),(337,de_),(234,gh_)],aw_,[]⟩
def iq_:=fF iq_.cx f205
theorem zA_:as_ iq_.cx f205 (k+1) [.g (.iface 252 (.ptr x)),.g (.iface 3 (.int .i64 i))] H Q=cl eC_ [x,.g (.iface 3 (.int .i64 i))] H λ_ a=>co x a 1 λb c=>aH de_ [nL b c 1] a λa b=>dV gh_ [.g (.iface 252 (.ptr x)),ad_ .i64 (b-1)] a Q []:=zz
theorem zB_:am_ prog 205 (iq_):=sO (eZ o3_ func341 (eZ jV_ func337 (eZ Dj_ func234 eN))) nO func205
def dg_.cx:Cx:=⟨tys,[],[],[(6,[1,2,4,6])],[(283,hx_),(247,hV_)],aw_,[.cell 2 100,.tmp 3,.cell 4 100,.tmp 5]⟩
def dg_:=fF dg_.cx f265
def dg_.l6 k a b c d e f g h i j l m n o p q r s t u v w x y z:=aS_ (dg_.cx) f265 6 k (.bad::.bx [.bool a,.bool b,.sl c d 1,.sl e f 1,.sl g h 1]::.bx [.bool i,.bool j,.sl l m 1,.sl n o 1,.sl p q 1]::.bad::.bx [.bool r,.bool s,.sl t u 1,.sl v w 1,.sl x y 1]::.bad::gI z::B 26 [])
theorem xS_:as_ dg_.cx f265 (k+1) [.agg [b,c,.sl x n 1,.sl y m 1,.sl z l 1]] H Q=bV (nI n) 5 Q [.a [false,false,.sl none 0 1,.sl none 0 1,.sl none 0 1],mkS [],.a [false,false,.sl none 0 1,.sl none 0 1,.sl none 0 1],nN 900] H (aM hx_ [.agg [b,c,.sl x n 1,.sl y m 1,.sl z l 1]] H Q [.a [false,false,.sl none 0 1,.sl none 0 1,.sl none 0 1],mkS [],.a [false,false,.sl none 0 1,.sl none 0 1,.sl none 0 1],nN 900] (λa=>cj_ c (dg_.l6 k b c x n y m z l false false none 0 none 0 none 0 false false none 0 none 0 none 0 3 a Q) (dg_.l6 k b c x n y m z l false false none 0 none 0 none 0 false false none 0 none 0 none 0 2 a Q))):=zz
theorem dg_.l6_eq:dg_.l6 (k+1) b c x n y m z l C d u o w N X M b1 b2 Y L Z O U D i H Q=bf hV_ [.agg [b,c,.sl x n 1,.sl y m 1,.sl z l 1],i] H λa b c=>cC c 1 1 1 λc d e f g h i j=>af b λb l=>dS l λl=>aZ b λb m=>cC m 1 1 1 λm n o p q r s t=>uE b (ax Q [.a [c,d,.sl e f 1,.sl g h 1,.sl i j 1],l,.a [m,n,.sl o p 1,.sl q r 1,.sl s t 1],nN 0] a):=zz
theorem xM_:am_ prog 265 (dg_):=sO (eZ re_ func283 (eZ ub_ func247 eN)) nO func265
def ch_.cx:Cx:=⟨tys,[],[(2,[0,1,2,7])],[(8,[0,1,2,7,9])],[(338,cI_),(339,cq_)],aw_,[.tmp 6]⟩
def ch_:=fF ch_.cx f266
def ch_.l2 k a b c d:=aS_ (ch_.cx) f266 2 k (.g (.iface 252 (.ptr a))::gI b::gI c::B 4 (gI d::B 40 []))
def ch_.l8 k a b c d e:=aS_ (ch_.cx) f266 8 k (.g (.iface 252 (.ptr a))::gI b::gI c::B 4 (gI d::.bad::gI e::B 38 []))
theorem z6_:as_ ch_.cx f266 (k+1) [.g (.iface 252 (.ptr x)),i,j] H Q=ch_.l2 k x i j i H Q:=zz
theorem ch_.l2_eq:ch_.l2 (k+1) x i j h H Q=bc j (ad_ .i64 (ad_ .i64 (2*h)+1)) (cT Q (ltI i h) H) (av (ad_ .i64 (ad_ .i64 (2*h)+1)) 0 (cT Q (ltI i h) H) (av (ad_ .i64 (ad_ .i64 (ad_ .i64 (2*h)+1)+1)) j (co x H 1 (λa b=>aj cI_ [nL a b 1,ad_ .i64 (ad_ .i64 (ad_ .i64 (2*h)+1)+1),ad_ .i64 (ad_ .i64 (2*h)+1)] H λa b=>cj_ b (ch_.l8 k x i j h (ad_ .i64 (ad_ .i64 (ad_ .i64 (2*h)+1)+1)) a Q) (ch_.l8 k x i j h (ad_ .i64 (ad_ .i64 (2*h)+1)) a Q))) (ch_.l8 k x i j h (ad_ .i64 (ad_ .i64 (2*h)+1)) H Q))):=zz
theorem ch_.l8_eq:ch_.l8 (k+1) x i j h g H Q=co x H 1 λa b=>aj cI_ [nL a b 1,g,h] H λa b=>aC b (cT Q (ltI i h) a) (co x a 1 (λb c=>cl cq_ [nL b c 1,h,g] a λ_ a=>ch_.l2 k x i j g a Q)):=zz
theorem An_:am_ prog 266 (ch_):=sO (eZ jf_ func338 (eZ g4_ func339 eN)) nO func266
def ek_.cx:Cx:=⟨tys,[],[],[],[],aw_,[.tmp 2]⟩
def ek_:=fF ek_.cx f340
theorem pU_:as_ ek_.cx f340 (k+1) [x] H Q=co x H 1 λ_ a=>pS x λb c=>dt H b c 1 0 (ad_ .i64 (nI a-1)) (ad_ .i64 (nI a-1)) H (tN (ad_ .i64 (nI a-1))*1) λb=>co x H 1 λc d=>ct 0 (ad_ .i64 (nI a-1)) (chk (leN 0 (tN (ad_ .i64 (nI a-1)))&&(leN (tN (ad_ .i64 (nI a-1))) d||kr_ H c (tN (ad_ .i64 (nI a-1))*1))) (pS x (λd e=>dx H d e (shf c 0) (tN (ad_ .i64 (nI a-1))-0) 1 λa=>cS Q (.iface 3 (.int .i64 b)) a))):=zz
theorem p0_:am_ prog 340 (ek_):=sO eN nO func340
def iK_.cx:Cx:=⟨tys,[],[],[],[(337,de_),(339,cq_),(266,ch_),(340,ek_)],aw_,[.tmp 2]⟩
def iK_:=fF iK_.cx f239
theorem BY_:as_ iK_.cx f239 (k+1) [.g (.iface 252 (.ptr x))] H Q=co x H 1 λa b=>aH de_ [nL a b 1] H λa b=>co x a 1 λc d=>cl cq_ [nL c d 1,nN 0,ad_ .i64 (b-1)] a λ_ a=>aj ch_ [.g (.iface 252 (.ptr x)),nN 0,ad_ .i64 (b-1)] a λa _=>ac ek_ [x] a λa b=>Q b a:=zz
theorem Cv_:am_ prog 239 (iK_):=sO (eZ jV_ func337 (eZ g4_ func339 (eZ An_ func266 (eZ p0_ func340 eN)))) nO func239
def cd_.cx:Cx:=⟨tys,[],[],[],[(239,iK_)],aw_,[.tmp 4]⟩
def cd_:=fF cd_.cx f207
theorem mN_:as_ cd_.cx f207 (k+1) [x,.agg [b,c,.sl y n 1,.sl z m 1,.sl u l 1]] H Q=pS x λa d=>ac iK_ [.g (.iface 252 (.ptr (some (a,d+1))))] H λa d=>dX 3 d λd=>ai d λd=>cG x a 5 0 d d λe f=>aG a e (f+tN d*5) b e (f+tN d*5+1) c λa=>aG a e (f+tN d*5+1+1) (.sl y n 1) e (f+tN d*5+1+1+1) (.sl z m 1) λa=>dx a e (f+tN d*5+1+1+1+1) u l 1 λa=>Q d a:=zz
theorem h8_:am_ prog 207 (cd_):=sO (eZ Cv_ func239 eN) nO func207
def bT_.cx:Cx:=⟨tys,[36],[],[],[(265,dg_),(207,cd_)],aw_,[.tmp 4]⟩
def bT_:=fF bT_.cx f238
theorem k8_:as_ bT_.cx f238 (k+1) [x,i] H Q=cG x H 5 0 i i λa b=>aD H a (b+tN i*5) λc=>aD H a (b+tN i*5+1) λd=>bh H a (b+tN i*5+1+1) 1 H a (b+tN i*5+1+1+1) 1 λe f g h=>dW H a (b+tN i*5+1+1+1+1) λa b=>bf dg_ [.agg [c,d,.sl e f 1,.sl g h 1,.sl a b 1]] H λa b c=>cC c 1 1 1 λc d e f g h j l=>af b λb m=>dS m λm=>aZ b λb n=>cC n 1 1 1 λn o p q r s t u=>bg b λb=>eU b 0 (cS Q (.ptr none) a) (cG x a 5 0 i i (λb v=>aG a b (v+tN i*5) c b (v+tN i*5+1) d λa=>aG a b (v+tN i*5+1+1) (.sl e f 1) b (v+tN i*5+1+1+1) (.sl g h 1) λa=>dx a b (v+tN i*5+1+1+1+1) j l 1 λa=>aH cd_ [x,.agg [n,o,.sl p q 1,.sl r s 1,.sl t u 1]] a λa b=>cS Q (.ptr (some (ln a,0))) (pu a (.row true 257 [m,b])))):=zz
theorem hC_:am_ prog 238 (bT_):=sO (eZ xM_ func265 (eZ h8_ func207 eN)) nO func238
def df_.cx:Cx:=⟨tys,[],[],[],[(226,cy_),(236,slices_Insert__string_string),(238,bT_)],aw_,[.tmp 8]⟩
def df_:=fF df_.cx f235
theorem m0_:as_ df_.cx f235 (k+1) [x,i,s,t] H Q=cG x H 5 0 i i λa b=>dW H a (b+tN i*5+2) λc d=>cp cy_ [nL c d 1,s] H λc d e=>cj_ e (cV c a (b+tN i*5+3) 1 0 d d (λa b=>wr c a (b+tN d*1) t λa=>cS Q (.ptr none) a)) (bh c a (b+tN i*5+2) 1 c a (b+tN i*5+3) 1 (λe f g h=>aE slices_Insert__string_string [nL e f 1,d,nL (some (ln c,0)) 1 1] (pu c (.row false 1000003 [s])) 1 λc e f=>cE c a (b+tN i*5+3) 1 (nL g h 1) (aE slices_Insert__string_string [nL g h 1,d,nL (some (ln c,0)) 1 1] (pu c (.row false 1000003 [t])) 1 (λc d g=>aG c a (b+tN i*5+2) (.sl e f 1) a (b+tN i*5+3) (.sl d g 1) λa=>ac bT_ [x,i] a λa b=>dP b λb=>Q b a)))):=zz
theorem mR_:am_ prog 235 (df_):=sO (eZ jq_ func226 (dN_.cons (fu_) (eZ hC_ func238 eN))) nO func235
def a3_.cx S:=(⟨tys,[],[],[],[(235,df_),(225,gt_),(206,S),(236,slices_Insert__string_string),(237,slices_Insert__int_int),(238,bT_)],aw_,[.tmp 8]⟩:Cx)
def a3_.st S:=fF (a3_.cx S) f206
theorem nu_:as_ (a3_.cx F) f206 (k+1) [x,i,s,t] H Q=cG x H 5 0 i i λa b=>dg H a (b+tN i*5+1) (ac df_ [x,i,s,t] H (λa b=>dP b λb=>Q b a)) (aH gt_ [.g (.ptr (some (a,b+tN i*5))),s] H (λc d=>dt c a (b+tN i*5+4) 1 0 d d c (tN d*1) λe=>ac F [x,e,s,t] c λc e=>dP e λe=>cj_ (isNone e) (cS Q (.ptr none) c) (dW c a (b+tN i*5+2) (λf g=>pS e λh j=>ah c h (j+0) λh=>dW c a (b+tN i*5+4) λj l=>pS e λe m=>aq c e (m+1) λn=>aE slices_Insert__string_string [nL f g 1,d,nL (some (ln c,0)) 1 1] (pu c (.row false 1000003 [h])) 1 λc f g=>aq c e (m+1) λe=>eqv n e (cE c a (b+tN i*5+4) 1 (nL j l 1) (aE slices_Insert__int_int [nL j l 1,ad_ .i64 (d+1),nL (some (ln c,0)) 1 1] (pu c (.row false 1000003 [n])) 1 (λc d e=>aG c a (b+tN i*5+2) (.sl f g 1) a (b+tN i*5+4) (.sl d e 1) λa=>ac bT_ [x,i] a λa b=>dP b λb=>Q b a))))))):=zz
theorem a3_.st_ok(S:Sm)(hS:c8_ prog 206 S):am_ prog 206 (a3_.st S):=mg_.sound (cx:=a3_.cx S) rfl (eZ mR_ func235 (eZ op_ func225 (dN_.cons hS (dN_.cons (fu_) (dN_.cons (kq_) (eZ hC_ func238 eN)))))) nO func206 rfl
def a3_.at:Nat->Sm
 |0=>λ_ _ _=>False
 |n+1=>a3_.st (a3_.at n)
def a3_:Sm:=λxs H Q=>∃n,a3_.at n xs H Q
theorem a3_.at_ok:∀n,am_ prog 206 (a3_.at n)
 |0=>λ_ _ _ h=>h.elim
 |n+1=>a3_.st_ok _ ((a3_.at_ok n).c ⟨_,func206,by kernel_rfl,by kernel_rfl⟩)
theorem ns_:am_ prog 206 (a3_):=am_.ex (a3_.at_ok)
def br_.cx:Cx:=⟨tys,[3,48,92,98],[(8,[1,2,6,11,48,52,53,54])],[],[(201,d6_),(202,dr_),(203,cp_),(194,do_),(204,bL_),(195,cD_),(205,iq_),(206,a3_),(207,cd_)],aw_,[.cell 6 24,.tmp 7]⟩
def br_:=fF br_.cx f163
def br_.l8 k a b c d e f g h i j l m:=aS_ (br_.cx) f163 8 k (.bad::gS a::gS b::B 3 (.bx [.sl c d 5]::B 4 (.g (.ptr (some (e,f)))::B 36 (.g (.ptr (some (g,h)))::B 3 (nL i j 5::gI l::gI m::B 51 [])))))
theorem sx_:as_ br_.cx f163 (k+1) [.agg [.sl x n 5],s,t] H Q=aa (pu H (.row true 24 [.sl x n 5])) (ln H) 0 5 λa b=>eg d6_ [.agg [.sl a b 5]] (pu H (.row true 24 [.sl x n 5])) Q [.a [.sl none 0 5],nN 1200] dr_ [s] Q λa=>aM cp_ [t] a Q [.a [.sl none 0 5],nN 1200] λa=>aa a (ln H) 0 5 λb c=>bQ do_ [.agg [.sl b c 5],s] a λa b _=>aW b λb c=>ba b (aC c (aH bL_ [.g (.ptr (some (ln H,0)))] a (λa b=>ep 60 b Q [.a [.sl none 0 5],nN 1201] a (aa a (ln H) 0 5 (λb c=>bR cD_ [.agg [.sl b c 5]] a 5 λa b c=>aa (pu a (.row true 250 [.sl b c 5,.sl none 0 1])) (ln a) 0 5 λd e=>br_.l8 k s t none 0 (ln a) 0 (ln a) 0 d e (nI e) 0 (pu a (.row true 250 [.sl b c 5,.sl none 0 1])) Q)))) (aa a (ln H) 0 5 (λb c=>bR cD_ [.agg [.sl b c 5]] a 5 λa b c=>aa (pu a (.row true 250 [.sl b c 5,.sl none 0 1])) (ln a) 0 5 λd e=>br_.l8 k s t none 0 (ln a) 0 (ln a) 0 d e (nI e) 0 (pu a (.row true 250 [.sl b c 5,.sl none 0 1])) Q))):=zz
theorem br_.l8_eq:br_.l8 (k+1) s t x n m l o N y M i j H Q=av j i (bJ (leI 0 j&&ltI j (nI M)) y H (tN j*5) H (tN j*5) (λa b c _=>dW H a (b+tN j*5+1+1) λ_ _=>dW H a (b+tN j*5+1+1+1) λ_ _=>dW H a (b+tN j*5+1+1+1+1) λ_ _=>aC c (cl iq_ [.g (.iface 252 (.ptr (some (m,l+1)))),.g (.iface 3 (.int .i64 j))] H (λ_ a=>br_.l8 k s t x n m l o N y M i (ad_ .i64 (j+1)) a Q)) (br_.l8 k s t x n m l o N y M i (ad_ .i64 (j+1)) H Q))) (ac a3_ [.g (.ptr (some (m,l))),nN 0,s,t] H (λa b=>dP b λb=>aC (isNone b) (aa a m (l+0) 5 (λc d=>d7 (leI 0 0&&ltI 0 (nI d)) c a (tN 0*5) a a 1 a 1 a 1 λc d e f g h i j=>aH cd_ [.g (.ptr (some (m,l))),.agg [c,d,.sl e f 1,.sl g h 1,.sl i j 1]] a λa c=>aa a m (l+0) 5 λd e=>pS b λf g=>ah a f (g+0) λh=>pS b λb i=>aq a b (i+1) λj=>HR_ (aq (pu a (.row true 9 [h])) b (i+1) (λb=>eqv j b (bN (pu a (.row true 9 [h])) m (l+0) 5 (nL d e 5) (ah (pu (pu a (.row true 9 [h])) (.row true 3 [c,j])) f (g+0) (λb=>eqv h b (bN (pu (pu a (.row true 9 [h])) (.row true 3 [c,j])) m (l+0) 5 (nL d e 5) (bH (leI 0 0&&ltI 0 (nI e)) d (pu (pu a (.row true 9 [h])) (.row true 3 [c,j])) (tN 0*5) true (tN 0*5) false (tN 0*5) (.sl (some (ln a,0)) 1 1) (tN 0*5) (.sl none 0 1) (tN 0*5) (.sl (some (ln (pu a (.row true 9 [.str h])),0)) 2 1) (λa=>ew a m (l+0) 5 Q (nN 0) a)))))))) (ah (pu a (.row true 3 [c,j])) f (g+0) (λf=>eqv h f (bN (pu a (.row true 3 [c,j])) m (l+0) 5 (nL d e 5) (aq (pu (pu a (.row true 3 [c,j])) (.row true 9 [h])) b (i+1) (λb=>eqv j b (bN (pu (pu a (.row true 3 [c,j])) (.row true 9 [h])) m (l+0) 5 (nL d e 5) (bH (leI 0 0&&ltI 0 (nI e)) d (pu (pu a (.row true 3 [c,j])) (.row true 9 [h])) (tN 0*5) true (tN 0*5) false (tN 0*5) (.sl (some (ln (pu a (.row true 3 [.int .i64 c,.int .i64 j])),0)) 1 1) (tN 0*5) (.sl none 0 1) (tN 0*5) (.sl (some (ln a,0)) 2 1) (λa=>ew a m (l+0) 5 Q (nN 0) a)))))))))) (ew a m (l+0) 5 Q (nN 0) a))):=zz
theorem sG_:am_ prog 163 (br_):=sO (eZ j9_ func201 (eZ kx_ func202 (eZ iD_ func203 (eZ q2_ func194 (eZ qV_ func204 (eZ pF_ func195 (eZ zB_ func205 (eZ ns_ func206 (eZ h8_ func207 eN))))))))) nO func163
def aM_.cx E:=(⟨tys,[],[(5,[2,3,4,7,28,29,30]),(13,[2,3,4,7,59,60,61])],[],[(159,ap_),(130,hW_),(160,cY_),(162,(bj_ E)),(161,slices_Sorted_string),(163,br_)],E,[.cell 2 24]⟩:Cx)
def aM_ E:=fF (aM_.cx E) f115
def aM_.l5 E k a b c d e f g h i j:=aS_ (aM_.cx E) f115 5 k (.bad::.bad::.bx [.sl a b 5]::.bx [.sl c d 5]::gM e::.bad::.bad::gM f::B 20 (nL g h 2::gI i::gI j::B 60 []))
def aM_.l13 E k a b c d e f g h i j:=aS_ (aM_.cx E) f115 13 k (.bad::.bad::.bx [.sl a b 5]::.bx [.sl c d 5]::gM e::.bad::.bad::gM f::B 51 (nL g h 1::gI i::gI j::B 29 []))
theorem oZ_:as_ (aM_.cx E) f115 (k+1) [x] H Q=dv x H 5 λa b c d=>ac ap_ [x] H λe f=>dM f λf=>aa e a (b+0) 5 λa b=>eqv (.agg [.sl c d 5]) (.agg [.sl a b 5]) (bM hW_ [.agg [.sl c d 5]] e 2 (λa b e g=>ba b (aM_.l5 E k none 0 c d f (some (ln a)) e g (nI g) 0 (pu a (.map [] 0)) Q))):=zz
theorem aM_.l5_eq:aM_.l5 E (k+1) x n y m a A z l i j H Q=av j i (bo (leI 0 j&&ltI j (nI l)) z H (tN j*2) (λb c d=>ah H b (c+tN j*2+1) λb=>dK H A [.str] d b λb=>cX b a [.str] d (mkS []) λc e=>dj c λ_=>aC e (bU cY_ [.agg [.sl y m 5],d] b 5 (λb c d e=>aW c λc _=>ba c (aM_.l5 E k x n d e a A z l i (ad_ .i64 (j+1)) b Q))) (aM_.l5 E k x n y m a A z l i (ad_ .i64 (j+1)) b Q))) (ac (bj_ E) [.g (.map a)] H (λb c=>aE slices_Sorted_string [c] b 1 λb c d=>aM_.l13 E k x n y m a A c d (nI d) 0 b Q)):=zz
theorem aM_.l13_eq:aM_.l13 E (k+1) x n y m a A z l i j H Q=av j i (aI (leI 0 j&&ltI j (nI l)) z H (tN j*1) (λb=>cX H A [.str] b (mkS []) λc d=>dj c λc=>aC d (cX H a [.str] b (mkS []) (λc _=>dj c λc=>dG br_ [.agg [.sl y m 5],b,c] H 5 λb c d=>aM_.l13 E k x n c d a A z l i (ad_ .i64 (j+1)) b Q)) (cX H a [.str] b (mkS []) (λd _=>dj d λd=>dC c d (cX H a [.str] b (mkS []) (λc _=>dj c λc=>dG br_ [.agg [.sl y m 5],b,c] H 5 λb c d=>aM_.l13 E k x n c d a A z l i (ad_ .i64 (j+1)) b Q)) (aM_.l13 E k x n y m a A z l i (ad_ .i64 (j+1)) H Q))))) (eM Q [.sl y m 5] H):=zz
theorem pf_(E)(h:eE E):am_ prog 115 (aM_ E):=sO (eZ l0_ func159 (eZ tP_ func130 (eZ v1_ func160 (eZ (fL_ E h) func162 (dN_.cons (fz_) (eZ sG_ func163 eN)))))) h func115
def fT_.cx E:=(⟨tys,[],[],[],[(78,(dM_ E)),(113,dS_),(114,bx_),(115,(aM_ E))],E,[.cell 6 24,.tmp 7]⟩:Cx)
def fT_ E:=fF (fT_.cx E) f58
theorem xP_:as_ (fT_.cx E) f58 (k+1) [.agg [.sl x n 5],.g (.fn m p),.g (.fn l q)] H Q=eQ (dM_ E) [.agg [.sl x n 5]] H λa b c=>aL c Q [.a [.sl none 0 5],nN 2000] a (cz b a 5 (λc d=>aH (E m) (cpl [.g (.sl c d 5)] p) a λa c=>bV c 0 Q [.a [.sl none 0 5],c] a (cl (E l) (cpl [.g (.ptr b)] q) a (λ_ a=>aH dS_ [b] a λa c=>av 60 c (da (dM_ E) [.agg [.sl x n 5]] a (λa b c=>aW b λb _=>uE b (cl bx_ [c] a (λ_ a=>cl (E l) (cpl [.g (.ptr c)] q) a λ_ a=>bT (aM_ E) [c] a 5 Q (nN 0))))) (bT (aM_ E) [b] a 5 Q (nN 0)))))):=zz
theorem pB_(E)(h:eE E):am_ prog 58 (fT_ E):=sO (eZ (t3_ E h) func78 (eZ o1_ func113 (eZ np_ func114 (eZ (pf_ E h) func115 eN)))) h func58
def bP_.cx:Cx:=⟨tys,[],[],[],[],aw_,[.tmp 2]⟩
def bP_:=fF bP_.cx f221
theorem hl_:as_ bP_.cx f221 (k+1) [nL x n 5] H Q=cj_ (isNone x) (dN Q none 0 5 H) (aR (dR H x (n*5) H 52 5 80 n (λa=>dN Q (some (ln H,0)) n 5 a))):=zz
theorem hn_:am_ prog 221 (bP_):=sO eN nO func221
def bB_.cx:Cx:=⟨tys,[],[],[],[],aw_,[.tmp 2]⟩
def bB_:=fF bB_.cx f137
theorem ho_:as_ bB_.cx f137 (k+1) [nL x n 3] H Q=cj_ (isNone x) (dN Q none 0 3 H) (aR (dR H x (n*3) H 108 3 40 n (λa=>dN Q (some (ln H,0)) n 3 a))):=zz
theorem ht_:am_ prog 137 (bB_):=sO eN nO func137
def cl_.cx:Cx:=⟨tys,[],[(3,[3,8,9])],[],[(221,bP_),(137,bB_)],aw_,[.tmp 2]⟩
def cl_:=fF cl_.cx f181
def cl_.l3 k a b c d:=aS_ (cl_.cx) f181 3 k (B 3 (nL a b 5::B 4 (gI c::gI d::B 14 [])))
theorem we_:as_ cl_.cx f181 (k+1) [nL x n 5] H Q=aE bP_ [nL x n 5] H 5 λa b c=>cl_.l3 k b c (nI c) 0 a Q:=zz
theorem cl_.l3_eq:cl_.l3 (k+1) x n i j H Q=av j i (ca (leI 0 j&&ltI j (nI n)) x H (tN j*5) 3 (λa b=>aE bB_ [nL a b 3] H 3 λa b c=>aB (leI 0 j&&ltI j (nI n)) x λd e=>dx a d (e+tN j*5+4) b c 3 λa=>cl_.l3 k x n i (ad_ .i64 (j+1)) a Q)) (dN Q x n 5 H):=zz
theorem vE_:am_ prog 181 (cl_):=sO (eZ hn_ func221 (eZ ht_ func137 eN)) nO func181
def cm_.cx:Cx:=⟨tys,[],[(4,[0,11,12,13])],[],[(135,bv_),(103,cZ_),(181,cl_)],aw_,[.tmp 4,.tmp 5]⟩
def cm_:=fF cm_.cx f136
def cm_.l4 k a b c d e f:=aS_ (cm_.cx) f136 4 k (nL a b 5::B 10 (nL c d 1::gI e::gI f::B 9 []))
theorem uT_:as_ cm_.cx f136 (k+1) [nL x n 5,nL y m 1] H Q=aM bv_ [nL x n 5] H Q [.s (.sl none 0 5),nN 1900] λa=>cm_.l4 k x n y m (nI m) 0 a Q:=zz
theorem cm_.l4_eq:cm_.l4 (k+1) x n y m i j H Q=av j i (aI (leI 0 j&&ltI j (nI m)) y H (tN j*1) (λa=>aM cZ_ [a] H Q [.s (.sl none 0 5),nN 1901] λa=>cm_.l4 k x n y m i (ad_ .i64 (j+1)) a Q)) (aY cl_ [nL x n 5] H 5 Q (nN 0)):=zz
theorem uL_:am_ prog 136 (cm_):=sO (eZ pv_ func135 (eZ gb_ func103 (eZ vE_ func181 eN))) nO func136
def fV_.cx:Cx:=⟨tys,[],[],[],[(136,cm_),(104,fH_)],aw_,[.tmp 4,.tmp 5,.tmp 6]⟩
def fV_:=fF fV_.cx f142
theorem un_:as_ fV_.cx f142 (k+1) [nL x n 5,nL y m 1] H Q=fd cm_ [nL x n 5,nL y m 1] H 5 λa b c d=>bV d 0 Q [.s (.sl none 0 5),nN 0,d] a (aI (leI 0 0&&ltI 0 (nI m)) y a (tN 0*1) (λd=>cp fH_ [nL b c 5,d] a λa d e=>aL e Q [.s (.sl none 0 5),nN 0,nN 1903] a (ax Q [.s (.sl b c 5),d,nN 0] a))):=zz
theorem u8_:am_ prog 142 (fV_):=sO (eZ uL_ func136 (eZ lT_ func104 eN)) nO func142
def fc_.cx:Cx:=⟨tys,[],[],[],[(142,fV_),(49,dj_)],aw_,[.tmp 6,.tmp 7,.tmp 8]⟩
def fc_:=fF fc_.cx f110
theorem wc_:as_ fc_.cx f110 (k+1) [nL x n 5,s,t] H Q=bM fV_ [nL x n 5,nL (some (ln H,0)) 1 1] (pu H (.row false 1000003 [s])) 5 λa b c d=>ay b λb e=>bg b λb=>bV b 0 Q [.s (.sl none 0 5),.s (.ptr none),b] a (cn (leI 0 e&&ltI e (nI d)) c a (tN e*5) (λb=>bV b 0 Q [.s (.sl none 0 5),.s (.ptr none),nN 1905] a (aM dj_ [t] a Q [.s (.sl none 0 5),.s (.ptr none),nN 1907] (λa=>aB (leI 0 e&&ltI e (nI d)) c λb f=>ax Q [.s (.sl c d 5),.s (.ptr (some (b,f+tN e*5))),nN 0] a)))):=zz
theorem nl_:am_ prog 110 (fc_):=sO (eZ u8_ func142 (eZ g9_ func49 eN)) nO func110
def cb_.cx:Cx:=⟨tys,[],[],[(11,[2,3,10,11,13])],[(110,fc_),(111,dv_),(50,cG_),(112,slices_Insert__api_File_api_File)],aw_,[.tmp 8,.tmp 9]⟩
def cb_:=fF cb_.cx f57
def cb_.l11 k a b c d e f:=aS_ (cb_.cx) f57 11 k (.bad::.bad::gS a::gS b::B 6 (nL c d 5::gP e::.bad::gI f::B 59 []))
theorem uv_:as_ cb_.cx f57 (k+1) [nL x n 5,s,t,r] H Q=bM fc_ [nL x n 5,s,t] H 5 λa b c d=>af b λb e=>dP e λe=>cU b 0 Q (.s (.sl none 0 5)) a (aM dv_ [r] a Q [.s (.sl none 0 5),nN 1909] (λa=>cz e a 3 λb f=>cp cG_ [nL b f 3,t] a λa b f=>aC f (cz e a 3 (λ_ g=>bj (nI g) 4 (ax Q [.s (.sl none 0 5),nN 1910] a) (aC f (cz e a 3 (λf g=>aE slices_Insert__api_File_api_File [nL f g 3,b,nL (some (ln a,0)) 1 3] (pu a (.row false 1000003 [mkS [],mkS [],false])) 3 λa f g=>pS e λh i=>dx a h (i+4) f g 3 λa=>cb_.l11 k t r c d e b a Q)) (cb_.l11 k t r c d e b a Q)))) (aC f (cz e a 3 (λf g=>aE slices_Insert__api_File_api_File [nL f g 3,b,nL (some (ln a,0)) 1 3] (pu a (.row false 1000003 [mkS [],mkS [],false])) 3 λa f g=>pS e λh i=>dx a h (i+4) f g 3 λa=>cb_.l11 k t r c d e b a Q)) (cb_.l11 k t r c d e b a Q)))):=zz
theorem cb_.l11_eq:cb_.l11 (k+1) s t x n y i H Q=pS y λa b=>cV H a (b+4) 3 0 i i λa b=>aG H a (b+tN i*3) s a (b+tN i*3+1) t λc=>br c a (b+tN i*3+1+1) true Q [.s (.sl x n 5),nN 0]:=zz
theorem uX_:am_ prog 57 (cb_):=sO (eZ nl_ func110 (eZ ih_ func111 (eZ gW_ func50 (dN_.cons (eB_) eN)))) nO func57
def fp_.cx:Cx:=⟨tys,[],[],[],[(57,cb_)],aw_,[.tmp 5]⟩
def fp_:=fF fp_.cx f56
theorem sV_:as_ fp_.cx f56 (k+1) [nL x n 5,.g (.ptr (some (m,l))),.g (.ptr (some (o,N))),.g (.ptr (some (M,L)))] H Q=dU H m l H o N λa b=>ah H M L λc=>bM cb_ [nL x n 5,a,b,c] H 5 λa b _ _=>bg b λb=>Q b a:=zz
theorem ti_:am_ prog 56 (fp_):=sO (eZ uX_ func57 eN) nO func56
def c0_.cx E:=(⟨tys,[],[(2,[0,3])],[],[],E,[.tmp 2]⟩:Cx)
def c0_ E:=fF (c0_.cx E) f139
def c0_.l2 E k a b c:=aS_ (c0_.cx E) f139 2 k (.g (.fn a b)::.bad::.bad::gI c::B 6 [])
theorem vs_:as_ (c0_.cx E) f139 (k+1) [.g (.fn n p)] H Q=c0_.l2 E k n p 1 H Q:=zz
theorem c0_.l2_eq:c0_.l2 E (k+1) n p i H Q=aj (E n) (cpl [.g (.int .i64 i)] p) H λa b=>cj_ b (c0_.l2 E k n p (ad_ .i64 (i+1)) a Q) (Q i a):=zz
theorem wf_(E)(h:eE E):am_ prog 139 (c0_ E):=sO eN h func139
def cV_.cx:Cx:=⟨tys,[],[],[],[],aw_,[.tmp 3]⟩
def cV_:=fF cV_.cx f164
theorem lC_:as_ cV_.cx f164 (k+1) [i,.g (.ptr (some (n,m)))] H Q=rd H n m λa=>dP a λa=>bt a H λa=>cX H a [.int .i64] i (.a [nN 0,mkS []]) λa b=>bn a λa _=>cW a (Q b H):=zz
theorem lh_:am_ prog 164 (cV_):=sO eN nO func164
def dk_.cx:Cx:=⟨tys,[1],[],[],[(139,(c0_ (cS_ [(164,cV_)])))],aw_,[.tmp 2]⟩
def dk_:=fF dk_.cx f117
theorem mJ_:as_ dk_.cx f117 (k+1) [x] H Q=aH (c0_ (cS_ [(164,cV_)])) [.g (.fn 164 [(ln H,0)])] (pu H (.row true 115 [x])) λa b=>Q b a:=zz
theorem mF_:am_ prog 117 (dk_):=sO (dN_.cons ((wf_ (cS_ [(164,cV_)]) (gE_ (eZ lh_ func164 eN))).c ⟨_,func139,by kernel_rfl,by kernel_rfl⟩) eN) nO func117
def dU_.cx:Cx:=⟨tys,[],[],[],[],aw_,[]⟩
def dU_:=fF dU_.cx f84
theorem pg_:as_ dU_.cx f84 (k+1) [x,.agg [i,s],.agg [j,b]] H Q=bt x H λa=>d8 H a [.int .i64] j (.a [nN 0,mkS []]) λa c=>cR a λa=>bt x H λd=>bW x H λe=>C9_ H d false [.int .i64] j (.a [nN 0,mkS []]) λf g h=>bn f λf _=>cW f (Ce_ h d (nI g) (.a [ad_ .i64 (c+1),a]) (λa=>C9_ a e true [.int .i64,.str] (.a [i,s]) (.a [nN 0,false]) λa c d=>bn a λa _=>eH a (Ce_ d e (nI c) (.a [j,b]) (λa=>ax Q [] a)))):=zz
theorem pc_:am_ prog 84 (dU_):=sO eN nO func84
def bq_.cx:Cx:=⟨tys,[],[],[(4,[0,3,8])],[(116,b0_),(117,dk_),(84,dU_)],aw_,[]⟩
def bq_:=fF bq_.cx f60
def bq_.l4 k a b c d:=aS_ (bq_.cx) f60 4 k (gP a::.bad::.bad::gS b::B 4 (.bx [.int .i64 c,.str d]::B 39 []))
theorem nL_:as_ bq_.cx f60 (k+1) [x,s,t,r] H Q=bX x H λa=>d8 H a [.str] s (.a [nN 0,nN 0,mkS [],mkS []]) λa b=>eI a λa _=>cW a (bW x H (λa=>tl_ H a true [.int .i64,.str] (.a [b,t]) (.a [nN 0,false]) λa c=>bn a λa _=>eH a (cj_ c (cl b0_ [x,.agg [b,t]] H (λ_ a=>bq_.l4 k x r b t a Q)) (bq_.l4 k x r b t H Q)))):=zz
theorem bq_.l4_eq:bq_.l4 (k+1) x s i t H Q=aH dk_ [x] H λa b=>bt x a λc=>dK a c [.int .i64] b (.a [nN 0,s]) λa=>dV dU_ [x,.agg [i,t],.agg [b,true]] a Q []:=zz
theorem nT_:am_ prog 60 (bq_):=sO (eZ gc_ func116 (eZ mF_ func117 (eZ pc_ func84 eN))) nO func60
def fk_.cx:Cx:=⟨tys,[],[],[],[(60,bq_)],aw_,[]⟩
def fk_:=fF fk_.cx f59
theorem tx_:as_ fk_.cx f59 (k+1) [x,.g (.ptr (some (n,m))),.g (.ptr (some (l,o))),.g (.ptr (some (N,M)))] H Q=dU H n m H l o λa b=>ah H N M λc=>dV bq_ [x,a,b,c] H Q []:=zz
theorem s6_:am_ prog 59 (fk_):=sO (eZ nT_ func60 eN) nO func59
def dG_.cx:Cx:=⟨tys,[5,6,7],[],[],[(58,(fT_ (cS_ [(56,fp_),(59,fk_)])))],aw_,[.cell 8 24,.tmp 9]⟩
def dG_:=fF dG_.cx f17
theorem wk_:as_ dG_.cx f17 (k+1) [.agg [.sl x n 5],s,t,r] H Q=ff (fT_ (cS_ [(56,fp_),(59,fk_)])) [.agg [.sl x n 5],.g (.fn 56 [(ln H,0),(ln (pu H (.row true 9 [.str s])),0),(ln (pu (pu H (.row true 9 [.str s])) (.row true 9 [.str t])),0)]),.g (.fn 59 [(ln H,0),(ln (pu H (.row true 9 [.str s])),0),(ln (pu (pu H (.row true 9 [.str s])) (.row true 9 [.str t])),0)])] (pu (pu (pu H (.row true 9 [s])) (.row true 9 [t])) (.row true 9 [r])) 5 λa b c d=>ax Q [.a [.sl b c 5],d] a:=zz
theorem nH_:am_ prog 17 (dG_):=sO (dN_.cons ((pB_ (cS_ [(56,fp_),(59,fk_)]) (gE_ (eZ ti_ func56 (eZ s6_ func59 eN)))).c ⟨_,func58,by kernel_rfl,by kernel_rfl⟩) eN) nO func17
def bw_.cx:Cx:=⟨tys,[],[(2000000,[0])],[],[],aw_,[.tmp 6]⟩
def bw_:=fF bw_.cx f118
theorem hg_:as_ bw_.cx f118 (k+1) [nL x n 3,i,j] H Q=ct 0 (nI n) (dq 0 j (leI 0 i) (chk (leN (tN i) (tN j)&&(leN (tN j) (tN (nI n))&&(leN (tN (nI n)) n&&n3_ H x (tN (nI n)*3)))) (bj i j (dN Q x n 3 H) (ct 0 i (fk (leN 0 (tN i)&&(leN (tN i) n||kr_ H x (tN i*3))) (dq 0 j (leN (tN j) n) (aR (cZ H (shf x (tN j*3)) ((n-tN j)*3) H 108 3 40 (shf x 0) (tN i-0) (n-tN j) (λa b c=>ct 0 (nI n) (dq 0 (nI b) (leN (tN (nI b)) (tN (nI n))&&(leN (tN (nI n)) b||kr_ c a (tN (nI n)*3))) (aR (clr c (shf a (tN (nI b)*3)) (tN (nI n)-tN (nI b)) [.str (mkS []),.str (mkS []),.bool false] (λc=>dN Q a b 3 c))))))))))))):=zz
theorem ha_:am_ prog 118 (bw_):=sO eN nO func118
def fj_.cx:Cx:=⟨tys,[],[],[],[(110,fc_),(50,cG_),(118,bw_)],aw_,[.tmp 6,.tmp 7]⟩
def fj_:=fF fj_.cx f62
theorem te_:as_ fj_.cx f62 (k+1) [nL x n 5,s,t] H Q=bM fc_ [nL x n 5,s,t] H 5 λa b c d=>af b λb e=>dP e λe=>cU b 0 Q (.s (.sl none 0 5)) a (cz e a 3 (λb f=>cp cG_ [nL b f 3,t] a λa b f=>aL f Q [.s (.sl none 0 5),nN 1908] a (cz e a 3 (λf g=>aE bw_ [nL f g 3,b,ad_ .i64 (b+1)] a 3 λa b f=>pS e λe g=>br a e (g+4) (.sl b f 3) Q [.s (.sl c d 5),nN 0])))):=zz
theorem tI_:am_ prog 62 (fj_):=sO (eZ nl_ func110 (eZ gW_ func50 (eZ ha_ func118 eN))) nO func62
def eI_.cx:Cx:=⟨tys,[],[],[],[(62,fj_)],aw_,[.tmp 4]⟩
def eI_:=fF eI_.cx f61
theorem ry_:as_ eI_.cx f61 (k+1) [nL x n 5,.g (.ptr (some (m,l))),.g (.ptr (some (o,N)))] H Q=dU H m l H o N λa b=>bM fj_ [nL x n 5,a,b] H 5 λa b _ _=>bg b λb=>Q b a:=zz
theorem qR_:am_ prog 61 (eI_):=sO (eZ tI_ func62 eN) nO func61
def dh_.cx:Cx:=⟨tys,[],[],[],[(116,b0_)],aw_,[]⟩
def dh_:=fF dh_.cx f64
theorem m3_:as_ dh_.cx f64 (k+1) [x,s,t] H Q=bX x H λa=>d8 H a [.str] s (.a [nN 0,nN 0,mkS [],mkS []]) λa b=>eI a λa _=>cW a (dV b0_ [x,.agg [b,t]] H Q []):=zz
theorem mL_:am_ prog 64 (dh_):=sO (eZ gc_ func116 eN) nO func64
def eU_.cx:Cx:=⟨tys,[],[],[],[(64,dh_)],aw_,[]⟩
def eU_:=fF eU_.cx f63
theorem rp_:as_ eU_.cx f63 (k+1) [x,.g (.ptr (some (n,m))),.g (.ptr (some (l,o)))] H Q=dU H n m H l o λa b=>dV dh_ [x,a,b] H Q []:=zz
theorem rL_:am_ prog 63 (eU_):=sO (eZ mL_ func64 eN) nO func63
end Go.Am
namespace Go.Am
open List
open Go.Proofs.Tryz
variable{E:Nat->Sm}{k:Nat}{H:Hp}{Q:Post}{U X Y Z u w x x1 y z:Pl}{D L M N O l m n n1 o:Nat}{I g h i j:Int}{C b b1 b2 c d:Bool}{R S e r s t:ByteArray}{A a:Option Nat}{p q:List (Nat×Nat)}{F:Sm}
def dc_.cx:Cx:=⟨tys,[4,5],[],[],[(58,(fT_ (cS_ [(61,eI_),(63,eU_)])))],aw_,[.cell 6 24,.tmp 7]⟩
def dc_:=fF dc_.cx f18
theorem uP_:as_ dc_.cx f18 (k+1) [.agg [.sl x n 5],s,t] H Q=ff (fT_ (cS_ [(61,eI_),(63,eU_)])) [.agg [.sl x n 5],.g (.fn 61 [(ln H,0),(ln (pu H (.row true 9 [.str s])),0)]),.g (.fn 63 [(ln H,0),(ln (pu H (.row true 9 [.str s])),0)])] (pu (pu H (.row true 9 [s])) (.row true 9 [t])) 5 λa b c d=>ax Q [.a [.sl b c 5],d] a:=zz
theorem mj_:am_ prog 18 (dc_):=sO (dN_.cons ((pB_ (cS_ [(61,eI_),(63,eU_)]) (gE_ (eZ qR_ func61 (eZ rL_ func63 eN)))).c ⟨_,func58,by kernel_rfl,by kernel_rfl⟩) eN) nO func18
def fJ_.cx:Cx:=⟨tys,[],[],[],[],aw_,[.tmp 2]⟩
def fJ_:=fF fJ_.cx f19
theorem uc_:am_ prog 19 (fJ_):=sO eN nO func19
def bO_.cx:Cx:=⟨tys,[],[(4,[0,1,5])],[],[],aw_,[.tmp 4]⟩
def bO_:=fF bO_.cx f119
def bO_.l4 k a b c d e:=aS_ (bO_.cx) f119 4 k (nL a b 1::nL c d 1::B 3 (gI e::B 20 []))
theorem kH_:as_ bO_.cx f119 (k+1) [nL x n 1,nL y m 1] H Q=cQ (nI n) (nI m) Q H (bO_.l4 k x n y m 0 H Q):=zz
theorem bO_.l4_eq:bO_.l4 (k+1) x n y m i H Q=bP i n (aI (leI 0 i&&ltI i (nI n)) x H (tN i*1) (λa=>aI (leI 0 i&&ltI i (nI m)) y H (tN i*1) λb=>bv (fy_ a b) Q H (bO_.l4 k x n y m (ad_ .i64 (i+1)) H Q))) (Q true H):=zz
theorem rc_:am_ prog 119 (bO_):=sO eN nO func119
def cf_.cx:Cx:=⟨tys,[],[(4,[0,1,5])],[],[],aw_,[.tmp 4]⟩
def cf_:=fF cf_.cx f120
def cf_.l4 k a b c d e:=aS_ (cf_.cx) f120 4 k (nL a b 1::nL c d 1::B 3 (gI e::B 20 []))
theorem lA_:as_ cf_.cx f120 (k+1) [nL x n 1,nL y m 1] H Q=cQ (nI n) (nI m) Q H (cf_.l4 k x n y m 0 H Q):=zz
theorem cf_.l4_eq:cf_.l4 (k+1) x n y m i H Q=bP i n (aK (leI 0 i&&ltI i (nI n)) x H (tN i*1) (λa=>aK (leI 0 i&&ltI i (nI m)) y H (tN i*1) λb=>cQ a b Q H (cf_.l4 k x n y m (ad_ .i64 (i+1)) H Q))) (Q true H):=zz
theorem sL_:am_ prog 120 (cf_):=sO eN nO func120
def fq_.cx:Cx:=⟨tys,[],[],[],[(119,bO_),(120,cf_)],aw_,[.tmp 4]⟩
def fq_:=fF fq_.cx f65
theorem s4_:as_ fq_.cx f65 (k+1) [.agg [b,c,.sl x n 1,.sl y m 1,.sl z l 1],.agg [C,d,.sl u o 1,.sl w N 1,.sl X M 1]] H Q=dH (eqB b C) Q H (dH (eqB c d) Q H (dJ bO_ [nL x n 1,nL u o 1] H Q (λa=>dJ bO_ [nL y m 1,nL w N 1] a Q λa=>bZ cf_ [nL z l 1,nL X M 1] a Q))):=zz
theorem sz_:am_ prog 65 (fq_):=sO (eZ rc_ func119 (eZ sL_ func120 eN)) nO func65
def b5_.cx:Cx:=⟨tys,[],[(4,[2,3,5])],[],[(65,fq_)],aw_,[.tmp 4]⟩
def b5_:=fF b5_.cx f20
def b5_.l4 k a b c d e:=aS_ (b5_.cx) f20 4 k (.bad::.bad::.bx [.sl a b 5]::.bx [.sl c d 5]::.bad::gI e::B 26 [])
theorem sZ_:as_ b5_.cx f20 (k+1) [.agg [.sl x n 5],.agg [.sl y m 5]] H Q=cQ (nI n) (nI m) Q H (b5_.l4 k x n y m 0 H Q):=zz
theorem b5_.l4_eq:b5_.l4 (k+1) x n y m i H Q=bP i n (d7 (leI 0 i&&ltI i (nI n)) x H (tN i*5) H H 1 H 1 H 1 (λa b c d e f g h=>d7 (leI 0 i&&ltI i (nI m)) y H (tN i*5) H H 1 H 1 H 1 λj l o p q r s t=>bD fq_ [.agg [a,b,.sl c d 1,.sl e f 1,.sl g h 1],.agg [j,l,.sl o p 1,.sl q r 1,.sl s t 1]] H Q λa=>b5_.l4 k x n y m (ad_ .i64 (i+1)) a Q)) (Q true H):=zz
theorem sC_:am_ prog 20 (b5_):=sO (eZ sz_ func65 eN) nO func20
def dI_.cx:Cx:=⟨tys,[],[],[],[(28,bN_),(66,ax_)],aw_,[.tmp 2,.tmp 3]⟩
def dI_:=fF dI_.cx f21
theorem vt_:as_ dI_.cx f21 (k+1) [.agg [.sl x n 5]] H Q=eQ bN_ [.agg [.sl x n 5]] H λa b c=>aL c Q [.s (.sl none 0 5),nN 2000] a (aY ax_ [b] a 5 Q (nN 0)):=zz
theorem nr_:am_ prog 21 (dI_):=sO (eZ i1_ func28 (eZ d9_ func66 eN)) nO func21
def gH_.cx:Cx:=⟨tys,[2],[],[],[],aw_,[.cell 0 24]⟩
def gH_:=fF gH_.cx f44
theorem A8_:as_ gH_.cx f44 (k+1) [] H Q=ak (leI 0 0&&ltI 0 (nI (tN 48))) (aG (pu H (.row true 100 (lu_ (tN 48) [.bool false,.bool false,.sl none 0 1,.sl none 0 1,.sl none 0 1]))) (ln H) (0+tN 0*5) true (ln H) (0+tN 0*5+1) true (λa=>aG a (ln H) (0+tN 0*5+1+1) (.sl none 0 1) (ln H) (0+tN 0*5+1+1+1) (.sl none 0 1) λa=>dx a (ln H) (0+tN 0*5+1+1+1+1) none 0 1 λa=>eM Q [.sl (some (ln H,0)) (tN 48) 5] a)):=zz
theorem ok_:am_ prog 44 (gH_):=sO eN nO func44
def bg_.cx:Cx:=⟨tys,[],[(3,[0,3,4])],[],[],aw_,[.tmp 2]⟩
def bg_:=fF bg_.cx f69
def bg_.l3 k a b c d e:=aS_ (bg_.cx) f69 3 k (nL a b 5::.bad::.bad::nL c d 5::gI e::B 21 [])
theorem yl_:as_ bg_.cx f69 (k+1) [nL x n 5] H Q=bg_.l3 k x n none 0 0 H Q:=zz
theorem bg_.l3_eq:bg_.l3 (k+1) x n y m i H Q=bP i n (cP (leI 0 i&&ltI i (nI n)) x H (tN i*5) H H H H 3 (λa b c d e f=>aR (dR H e (f*3) H 108 3 40 f (λe=>dO e 52 5 80 y m [a,b,c,d,.sl (some (ln H,0)) f 3] λa b c=>bg_.l3 k x n a b (ad_ .i64 (i+1)) c Q)))) (dN Q y m 5 H):=zz
theorem kS_:am_ prog 69 (bg_):=sO eN nO func69
def a4_.cx:Cx:=⟨tys,[],[(4,[0,3,5,6,7])],[(9,[0,3,5,6,7])],[],aw_,[.tmp 4]⟩
def a4_:=fF a4_.cx f96
def a4_.l4 k a b c d e f g h i j l m:=aS_ (a4_.cx) f96 4 k (nL a b 5::.bad::.bad::.bx [.str c,.int .i64 d,.str e,.str f,.sl g h 3]::.bad::nL i j 5::gB l::gI m::B 36 [])
def a4_.l9 k a b c d e f g h i j l m:=aS_ (a4_.cx) f96 9 k (nL a b 5::.bad::.bad::.bx [.str c,.int .i64 d,.str e,.str f,.sl g h 3]::.bad::nL i j 5::gB l::gI m::B 36 [])
theorem xO_:as_ a4_.cx f96 (k+1) [nL x n 5,.agg [s,i,t,r,.sl y m 3]] H Q=a4_.l4 k x n s i t r y m none 0 false 0 H Q:=zz
theorem a4_.l4_eq:a4_.l4 (k+1) x n s i t r y m z l b j H Q=bP j n (aC b (bk (leI 0 j&&ltI j (nI n)) x H (tN j*5) (λa=>aC (dJ_ a s||fy_ a s) (dO H 52 5 80 z l [s,i,t,r,.sl y m 3] (λa b c=>a4_.l9 k x n s i t r y m a b true j c Q)) (a4_.l9 k x n s i t r y m z l b j H Q))) (a4_.l9 k x n s i t r y m z l b j H Q)) (aC b (dO H 52 5 80 z l [s,i,t,r,.sl y m 3] (λa b c=>dN Q a b 5 c)) (dN Q z l 5 H)):=zz
theorem a4_.l9_eq:a4_.l9 (k+1) x n s i t r y m z l b j H Q=cP (leI 0 j&&ltI j (nI n)) x H (tN j*5) H H H H 3 λa c d e f g=>dO H 52 5 80 z l [a,c,d,e,.sl f g 3] λa c d=>a4_.l4 k x n s i t r y m a c b (ad_ .i64 (j+1)) d Q:=zz
theorem pr_:am_ prog 96 (a4_):=sO eN nO func96
def bd_.cx:Cx:=⟨tys,[],[(17,[0,10,11,12])],[],[(95,ci_),(29,aV_),(51,bt_),(69,bg_),(96,a4_)],aw_,[.tmp 8,.tmp 9]⟩
def bd_:=fF bd_.cx f37
def bd_.l17 k a b c d e f g h i j:=aS_ (bd_.cx) f37 17 k (nL a b 5::B 9 (gI c::.bx [.str d,.int .i64 e,.str f,.str g,.sl h i 3]::gI j::B 87 []))
theorem s8_:as_ bd_.cx f37 (k+1) [nL x n 5,s,t,i] H Q=aH ci_ [nL x n 5,t] H λa b=>d9 aV_ [nL x n 5] a Q [.s (.sl none 0 5),nN 1900] bt_ [s] Q [.s (.sl none 0 5),nN 1901] λa=>eG t [] (aM bt_ [t] a Q [.s (.sl none 0 5),nN 1901] (λa=>eU i 0 (bV i 1 Q [.s (.sl none 0 5),nN 1905] a (aH ci_ [nL x n 5,s] a (λa c=>ep 0 c Q [.s (.sl none 0 5),nN 1902] a (eG t [] (eO b 0 Q [.s (.sl none 0 5),nN 1904] a (cn (leI 0 b&&ltI b (nI n)) x a (tN b*5) (λc=>bV c 2 Q [.s (.sl none 0 5),nN 1904] a (ep 6 (nI n) Q [.s (.sl none 0 5),nN 1910] a (bc 0 b (bd_.l17 k x n b s i t (mkS []) none 0 0 a Q) (eJ bg_ [nL x n 5] a 5 a4_ [s,i,t,mkS [],.sl none 0 3] 5 Q (nN 0))))))) (ep 6 (nI n) Q [.s (.sl none 0 5),nN 1910] a (bc 0 b (bd_.l17 k x n b s i t (mkS []) none 0 0 a Q) (eJ bg_ [nL x n 5] a 5 a4_ [s,i,t,mkS [],.sl none 0 3] 5 Q (nN 0)))))))) (aH ci_ [nL x n 5,s] a (λa c=>ep 0 c Q [.s (.sl none 0 5),nN 1902] a (eG t [] (eO b 0 Q [.s (.sl none 0 5),nN 1904] a (cn (leI 0 b&&ltI b (nI n)) x a (tN b*5) (λc=>bV c 2 Q [.s (.sl none 0 5),nN 1904] a (ep 6 (nI n) Q [.s (.sl none 0 5),nN 1910] a (bc 0 b (bd_.l17 k x n b s i t (mkS []) none 0 0 a Q) (eJ bg_ [nL x n 5] a 5 a4_ [s,i,t,mkS [],.sl none 0 3] 5 Q (nN 0))))))) (ep 6 (nI n) Q [.s (.sl none 0 5),nN 1910] a (bc 0 b (bd_.l17 k x n b s i t (mkS []) none 0 0 a Q) (eJ bg_ [nL x n 5] a 5 a4_ [s,i,t,mkS [],.sl none 0 3] 5 Q (nN 0))))))))) (eU i 0 (bV i 1 Q [.s (.sl none 0 5),nN 1905] a (aH ci_ [nL x n 5,s] a (λa c=>ep 0 c Q [.s (.sl none 0 5),nN 1902] a (eG t [] (eO b 0 Q [.s (.sl none 0 5),nN 1904] a (cn (leI 0 b&&ltI b (nI n)) x a (tN b*5) (λc=>bV c 2 Q [.s (.sl none 0 5),nN 1904] a (ep 6 (nI n) Q [.s (.sl none 0 5),nN 1910] a (bc 0 b (bd_.l17 k x n b s i t (mkS []) none 0 0 a Q) (eJ bg_ [nL x n 5] a 5 a4_ [s,i,t,mkS [],.sl none 0 3] 5 Q (nN 0))))))) (ep 6 (nI n) Q [.s (.sl none 0 5),nN 1910] a (bc 0 b (bd_.l17 k x n b s i t (mkS []) none 0 0 a Q) (eJ bg_ [nL x n 5] a 5 a4_ [s,i,t,mkS [],.sl none 0 3] 5 Q (nN 0)))))))) (aH ci_ [nL x n 5,s] a (λa c=>ep 0 c Q [.s (.sl none 0 5),nN 1902] a (eG t [] (eO b 0 Q [.s (.sl none 0 5),nN 1904] a (cn (leI 0 b&&ltI b (nI n)) x a (tN b*5) (λc=>bV c 2 Q [.s (.sl none 0 5),nN 1904] a (ep 6 (nI n) Q [.s (.sl none 0 5),nN 1910] a (bc 0 b (bd_.l17 k x n b s i t (mkS []) none 0 0 a Q) (eJ bg_ [nL x n 5] a 5 a4_ [s,i,t,mkS [],.sl none 0 3] 5 Q (nN 0))))))) (ep 6 (nI n) Q [.s (.sl none 0 5),nN 1910] a (bc 0 b (bd_.l17 k x n b s i t (mkS []) none 0 0 a Q) (eJ bg_ [nL x n 5] a 5 a4_ [s,i,t,mkS [],.sl none 0 3] 5 Q (nN 0)))))))):=zz
theorem bd_.l17_eq:bd_.l17 (k+1) x n i s j t r y m h H Q=aB (leI 0 i&&ltI i (nI n)) x λa b=>aX H a (b+tN i*5+4) 3 h (du (leI 0 i&&ltI i (nI n)) x H (tN i*5) 3 0 h h (λa b=>dU H a (b+tN h*3) H a (b+tN h*3+1) λc d=>aD H a (b+tN h*3+1+1) λ_=>dO H 108 3 40 y m [c,d,false] λa b c=>bd_.l17 k x n i s j t r a b (ad_ .i64 (h+1)) c Q)) (eJ bg_ [nL x n 5] H 5 a4_ [s,j,t,r,.sl y m 3] 5 Q (nN 0)):=zz
theorem r4_:am_ prog 37 (bd_):=sO (eZ kv_ func95 (eZ eQ_ func29 (eZ dR_ func51 (eZ kS_ func69 (eZ pr_ func96 eN))))) nO func37
def aH_.cx:Cx:=⟨tys,[],[(2,[0,3]),(6,[0,3,4,5])],[],[(75,bb_)],aw_,[.tmp 2]⟩
def aH_:=fF aH_.cx f121
def aH_.l2 k a b:=aS_ (aH_.cx) f121 2 k (gP a::.bad::.bad::gI b::B 35 [])
def aH_.l6 k a b c d:=aS_ (aH_.cx) f121 6 k (gP a::.bad::.bad::gI b::gB c::gI d::B 33 [])
theorem mV_:as_ aH_.cx f121 (k+1) [x] H Q=aH_.l2 k x 1 H Q:=zz
theorem aH_.l2_eq:aH_.l2 (k+1) x i H Q=bc i 255 (aH bb_ [x,i] H (λa b=>aH_.l6 k x i (leI 0 b) 0 a Q)) (Q (nN 0) H):=zz
theorem aH_.l6_eq:aH_.l6 (k+1) x i b j H Q=cD x H 4 j (cj_ b (aH_.l6 k x i true (ad_ .i64 (j+1)) H Q) (di x H 4 0 j j (λa b=>aq H a (b+tN j*4+0) λa=>aH_.l6 k x i (eqI a i) (ad_ .i64 (j+1)) H Q))) (aC b (Q i H) (aH_.l2 k x (ad_ .i64 (i+1)) H Q)):=zz
theorem mS_:am_ prog 121 (aH_):=sO (eZ g2_ func75 eN) nO func121
def dV_.cx:Cx:=⟨tys,[],[],[],[],aw_,[.tmp 2]⟩
def dV_:=fF dV_.cx f165
theorem oS_:as_ dV_.cx f165 (k+1) [x] H Q=bw x H 5 λ_ a=>dp x H 4 λ_ b=>cI x H 3 λ_ c=>Q (ad_ .i64 (ad_ .i64 (nI a+nI b)+nI c)) H:=zz
theorem ph_:am_ prog 165 (dV_):=sO eN nO func165
def bc_.cx:Cx:=⟨tys,[],[(2,[0,3])],[],[(75,bb_)],aw_,[.tmp 2]⟩
def bc_:=fF bc_.cx f147
def bc_.l2 k a b:=aS_ (bc_.cx) f147 2 k (gP a::.bad::.bad::gI b::B 21 [])
theorem mT_:as_ bc_.cx f147 (k+1) [x] H Q=bc_.l2 k x 0 H Q:=zz
theorem bc_.l2_eq:bc_.l2 (k+1) x i H Q=cD x H 4 i (di x H 4 0 i i (λa b=>aq H a (b+tN i*4+0) λa=>aH bb_ [x,a] H λa b=>av b 0 (Q i a) (bc_.l2 k x (ad_ .i64 (i+1)) a Q))) (en Q .i64 (-1) H):=zz
theorem mZ_:am_ prog 147 (bc_):=sO (eZ g2_ func75 eN) nO func147
def aG_.cx:Cx:=⟨tys,[],[(3,[0,1,4,5,6]),(11,[0,7,8])],[],[(55,aQ_)],aw_,[]⟩
def aG_:=fF aG_.cx f123
def aG_.l3 k a b c d e f:=aS_ (aG_.cx) f123 3 k (gP a::gI b::.bad::.bad::gI c::nL d e 4::gI f::B 84 [])
def aG_.l11 k a b c d:=aS_ (aG_.cx) f123 11 k (gP a::B 6 (nL b c 3::gI d::B 82 []))
theorem o8_:as_ aG_.cx f123 (k+1) [x,i] H Q=di x H 4 0 i i λa b=>aq H a (b+tN i*4+2) λa=>aH aQ_ [x,a] H λa b=>aG_.l3 k x i b none 0 0 a Q:=zz
theorem aG_.l3_eq:aG_.l3 (k+1) x i j y n h H Q=cD x H 4 h (eU h i (di x H 4 0 h h (λa b=>aq H a (b+tN h*4) λc=>ah H a (b+tN h*4+1) λd=>aq H a (b+tN h*4+1+1) λe=>aD H a (b+tN h*4+1+1+1) λa=>dO H 87 4 40 y n [c,d,e,a] λa b c=>aG_.l3 k x i j a b (ad_ .i64 (h+1)) c Q)) (aG_.l3 k x i j y n (ad_ .i64 (h+1)) H Q)) (bY x H (.sl y n 4) (λa=>cI x a 3 λb c=>cL (leI 0 j&&ltI j (nI c)) b a (tN j*3) λd=>aB (leI 0 j&&ltI j (nI c)) b λb c=>wr a b (c+tN j*3+1+0) (ad_ .i64 (d-1)) λa=>aG_.l11 k x none 0 0 a Q)):=zz
theorem aG_.l11_eq:aG_.l11 (k+1) x y n i H Q=dz x H 3 i (fl x H 3 0 i i H (tN i*3) (λa=>av 0 a (eu x H 3 0 i i (λa b=>aq H a (b+tN i*3) λc=>aq H a (b+tN i*3+1) λd=>ah H a (b+tN i*3+1+1) λa=>dO H 65 3 32 y n [c,d,a] λa b c=>aG_.l11 k x a b (ad_ .i64 (i+1)) c Q)) (aG_.l11 k x y n (ad_ .i64 (i+1)) H Q))) (pS x (λa b=>br H a (b+2) (.sl y n 3) Q [])):=zz
theorem je_:am_ prog 123 (aG_):=sO (eZ ea_ func55 eN) nO func123
def bI_.cx:Cx:=⟨tys,[],[(0,[0])],[],[(147,bc_),(123,aG_)],aw_,[]⟩
def bI_:=fF bI_.cx f166
def bI_.l0 k a:=aS_ (bI_.cx) f166 0 k (gP a::B 8 [])
theorem bI_.l0_eq:bI_.l0 (k+1) x H Q=aH bc_ [x] H λa b=>bc 0 b (aH bc_ [x] a (λa b=>cl aG_ [x,b] a λ_ a=>bI_.l0 k x a Q)) (ax Q [] a):=zz
theorem nf_:am_ prog 166 (bI_):=sO (eZ mZ_ func147 (eZ je_ func123 eN)) nO func166
def fh_.cx:Cx:=⟨tys,[],[],[],[(51,bt_)],aw_,[.tmp 2,.tmp 3]⟩
def fh_:=fF fh_.cx f208
theorem sg_:as_ fh_.cx f208 (k+1) [s] H Q=aM bt_ [s] H Q [mkS [],nN 1600] λa=>db (mkS [115]) s Q (nN 0) a:=zz
theorem sD_:am_ prog 208 (fh_):=sO (eZ dR_ func51 eN) nO func208
def fi_.cx:Cx:=⟨tys,[17],[],[],[(168,dZ_)],aw_,[.tmp 2,.tmp 3]⟩
def fi_:=fF fi_.cx f209
theorem sO_:as_ fi_.cx f209 (k+1) [.agg [i,j,s,t]] H Q=cY dZ_ [.agg [i,j,s,t]] H Q [mkS [],nN 1700] (.row true 5 [.int .u8 (ad_ .u8 i),.int .u8 (ad_ .u8 j),.int .u8 (ad_ .u8 (sz s))]) 3 λa b=>IB_ b s λb=>db b t Q (nN 0) (pu a (.row true 5 [.int .u8 (ad_ .u8 i),.int .u8 (ad_ .u8 j),.int .u8 (ad_ .u8 (sz s))])):=zz
theorem tG_:am_ prog 209 (fi_):=sO (eZ lz_ func168 eN) nO func209
def dE_.cx:Cx:=⟨tys,[],[(3,[0,1,6,7])],[],[],aw_,[.tmp 4,.tmp 5]⟩
def dE_:=fF dE_.cx f99
def dE_.l3 k a b c d e:=aS_ (dE_.cx) f99 3 k (nL a b 1::gS c::B 4 (gI d::gI e::B 27 []))
theorem zL_:as_ dE_.cx f99 (k+1) [nL x n 1,s] H Q=dE_.l3 k x n s 0 0 H Q:=zz
theorem dE_.l3_eq:dE_.l3 (k+1) x n s i j H Q=bP j n (eS (leI 0 j&&ltI j (nI n)) x H (tN j*1) s (dE_.l3 k x n s (ad_ .i64 (i+1)) (ad_ .i64 (j+1)) H Q) (dE_.l3 k x n s i (ad_ .i64 (j+1)) H Q)) (bP i n (aI (leI 0 i&&ltI i (nI n)) x H (tN i*1) (λa=>ax Q [i,.s (.bool (fy_ a s))] H)) (ax Q [i,false] H)):=zz
theorem As_:am_ prog 99 (dE_):=sO eN nO func99
def gr_.cx:Cx:=⟨tys,[],[],[],[],aw_,[.tmp 2]⟩
def gr_:=fF gr_.cx f149
theorem x6_:as_ gr_.cx f149 (k+1) [nL x n 1] H Q=aR (dR H x (n*1) H 9 1 16 n (λa=>dN Q (some (ln H,0)) n 1 a)):=zz
theorem xT_:am_ prog 149 (gr_):=sO eN nO func149
def ie_.cx:Cx:=⟨tys,[],[],[],[],aw_,[.tmp 2]⟩
def ie_:=fF ie_.cx f150
theorem zO_:as_ ie_.cx f150 (k+1) [nL x n 1] H Q=aR (dR H x (n*1) H 3 1 8 n (λa=>dN Q (some (ln H,0)) n 1 a)):=zz
theorem zF_:am_ prog 150 (ie_):=sO eN nO func150
def ce_.cx:Cx:=⟨tys,[],[(3,[1,2,3,4])],[],[(149,gr_),(150,ie_)],aw_,[.cell 2 24]⟩
def ce_:=fF ce_.cx f100
def ce_.l3 k a b c d e f g:=aS_ (ce_.cx) f100 3 k (.bad::.bx [.sl a b 5]::.bx [.sl c d 5]::.bx [.sl e f 5]::gI g::B 32 [])
theorem sX_:as_ ce_.cx f100 (k+1) [.agg [.sl x n 5]] H Q=ce_.l3 k x n none 0 none 0 0 H Q:=zz
theorem ce_.l3_eq:ce_.l3 (k+1) x n y m z l i H Q=bP i n (d7 (leI 0 i&&ltI i (nI n)) x H (tN i*5) H H 1 H 1 H 1 (λa b c d e f g h=>aE gr_ [nL c d 1] H 1 λc d j=>aE gr_ [nL e f 1] c 1 λc e f=>aE ie_ [nL g h 1] c 1 λc g h=>dO c 100 5 80 z l [a,b,.sl d j 1,.sl e f 1,.sl g h 1] λa b c=>ce_.l3 k x n y m a b (ad_ .i64 (i+1)) c Q)) (eM Q [.sl z l 5] H):=zz
theorem tM_:am_ prog 100 (ce_):=sO (eZ xT_ func149 (eZ zF_ func150 eN)) nO func100
def cX_.cx:Cx:=⟨tys,[],[(4,[0,5,6,7]),(2000000,[6])],[],[],aw_,[.tmp 4]⟩
def cX_:=fF cX_.cx f152
def cX_.l4 k a b c d e:=aS_ (cX_.cx) f152 4 k (gI a::B 4 (gI b::nL c d 1::gI e::B 28 []))
theorem xN_:as_ cX_.cx f152 (k+1) [i,j] H Q=chk (!(eqI j 0)) (cX_.l4 k i (mxI 1 (ad_ .i64 (Int.tdiv (ad_ .i64 (ad_ .i64 (i+j)-1)) j))) none 0 0 H Q):=zz
theorem cX_.l4_eq:cX_.l4 (k+1) i j x n h H Q=av h j (ae (!(eqI j 0)) (!(eqI j 0)) (dO H 3 1 8 x n [ad_ .i64 (ad_ .i64 (Int.tdiv (ad_ .i64 (i*ad_ .i64 (h+1))) j)-ad_ .i64 (Int.tdiv (ad_ .i64 (i*h)) j))] (λa b c=>cX_.l4 k i j a b (ad_ .i64 (h+1)) c Q))) (dN Q x n 1 H):=zz
theorem po_:am_ prog 152 (cX_):=sO eN nO func152
def a6_.cx:Cx:=⟨tys,[],[(5,[0,2,3,4,5,6]),(9,[0,2,3,4,5,6,7,8])],[(16,[0,2,3,4,5,6,7,9])],[(152,cX_)],aw_,[.cell 2 198]⟩
def a6_:=fF a6_.cx f151
def a6_.l5 k a b c d e f g h i j l m n o:=aS_ (a6_.cx) f151 5 k (nL a b 2::.bad::.bx [.sl c d 5,.sl e f 1]::.bx [.sl g h 5,.sl i j 1]::nL l m 1::gI n::gI o::B 73 [])
def a6_.l9 k a b c d e f g h i j l m n o p q r s t u v w x:=aS_ (a6_.cx) f151 9 k (nL a b 2::.bad::.bx [.sl c d 5,.sl e f 1]::.bx [.sl g h 5,.sl i j 1]::nL l m 1::gI n::gI o::.bx [.bool p,.bool q,.sl r s 1,.sl t u 1,.sl v w 1]::gI x::B 71 [])
def a6_.l16 k a b c d e f g h i j l m n o p q r s t u v w x:=aS_ (a6_.cx) f151 16 k (nL a b 2::.bad::.bx [.sl c d 5,.sl e f 1]::.bx [.sl g h 5,.sl i j 1]::nL l m 1::gI n::gI o::.bx [.bool p,.bool q,.sl r s 1,.sl t u 1,.sl v w 1]::.bad::gS x::B 70 [])
theorem xg_:as_ a6_.cx f151 (k+1) [nL x n 2] H Q=aE cX_ [nI n,nN 4] H 1 λa b c=>a6_.l5 k x n none 0 none 0 none 0 none 0 b c 0 0 a Q:=zz
theorem a6_.l5_eq:a6_.l5 (k+1) x n y m z l u o w N X M i j H Q=bP j M (a6_.l9 k x n y m z l u o w N X M i j true true none 0 none 0 none 0 i H Q) (eM Q [.sl u o 5,.sl w N 1] H):=zz
theorem a6_.l9_eq:a6_.l9 (k+1) x n y m z l u o w N X M i j b c Y L Z O U D h H Q=aK (leI 0 j&&ltI j (nI M)) X H (tN j*1) λa=>av h (ad_ .i64 (i+a)) (bk (leI 0 h&&ltI h (nI n)) x H (tN h*2) (λa=>dO H 9 1 16 Y L [a] λa d e=>dQ (leI 0 h&&ltI h (nI n)) x e (tN h*2) λf=>dO e 9 1 16 Z O [f] λe f g=>a6_.l9 k x n y m z l u o w N X M i j b c a d e f U D (ad_ .i64 (h+1)) g Q)) (aK (leI 0 j&&ltI j (nI M)) X H (tN j*1) (λa=>av 0 a (bk (leI 0 i&&ltI i (nI n)) x H (tN i*2) (λa=>a6_.l16 k x n y m z l u o w N X M i j b c Y L Z O U D a H Q)) (a6_.l16 k x n y m z l u o w N X M i j b c Y L Z O U D (mkS []) H Q))):=zz
theorem a6_.l16_eq:a6_.l16 (k+1) x n y m z l u o w N X M i j b c Y L Z O U D s H Q=dO H 100 5 80 u o [b,c,.sl Y L 1,.sl Z O 1,.sl U D 1] λa b c=>dO c 9 1 16 w N [s] λc d e=>aK (leI 0 j&&ltI j (nI M)) X e (tN j*1) λf=>a6_.l5 k x n y m z l a b c d X M (ad_ .i64 (i+f)) (ad_ .i64 (j+1)) e Q:=zz
theorem xm_:am_ prog 151 (a6_):=sO (eZ po_ func152 eN) nO func151
def ba_.cx:Cx:=⟨tys,[],[(4,[2,3,4,5]),(9,[2,3,4,5,6,7,8,9]),(13,[2,3,4,5,6,7,8,9,10,11])],[],[(44,gH_),(151,a6_),(152,cX_)],aw_,[.cell 2 24]⟩
def ba_:=fF ba_.cx f102
def ba_.l4 k a b c d e f g h i:=aS_ (ba_.cx) f102 4 k (.bad::.bad::.bx [.sl a b 5]::.bx [.sl c d 5]::.bx [.sl e f 5,.sl g h 1]::gI i::B 96 [])
def ba_.l9 k a b c d e f g h i j l m n o p q r:=aS_ (ba_.cx) f102 9 k (.bad::.bad::.bx [.sl a b 5]::.bx [.sl c d 5]::.bx [.sl e f 5,.sl g h 1]::gI i::.bx [.sl j l 5,.sl m n 1]::nL o p 1::gI q::gI r::B 92 [])
def ba_.l13 k a b c d e f g h i j l m n o p q r s t u v w x y z A:=aS_ (ba_.cx) f102 13 k (.bad::.bad::.bx [.sl a b 5]::.bx [.sl c d 5]::.bx [.sl e f 5,.sl g h 1]::gI i::.bx [.sl j l 5,.sl m n 1]::nL o p 1::gI q::gI r::.bx [.bool s,.bool t,.sl u v 1,.sl w x 1,.sl y z 1]::gI A::B 90 [])
theorem x4_:as_ ba_.cx f102 (k+1) [nL x n 2] H Q=bR gH_ [] H 5 λa b c=>bm a6_ [nL x n 2] a λa d=>cq d 5 1 λd e f g=>ba_.l4 k none 0 b c d e f g 1 a Q:=zz
theorem ba_.l4_eq:ba_.l4 (k+1) x n y m z l u o i H Q=bP 1 l (aE cX_ [nI l,nN 5] H 1 (λa b c=>ba_.l9 k x n y m z l u o i none 0 none 0 b c 0 0 a Q)) (cJ (leI 0 0&&ltI 0 (nI l)) z H (tN 0*5) H (tN 0*5) H (tN 0*5) 1 H (tN 0*5) 1 H (tN 0*5) 1 (leI 0 0&&ltI 0 (nI m)) y H (tN 0*5) (tN 0*5) (tN 0*5) (tN 0*5) (tN 0*5) (λa=>eM Q [.sl y m 5] a)):=zz
theorem ba_.l9_eq:ba_.l9 (k+1) x n y m z l u o i w N X M Y L j h H Q=bP h L (ba_.l13 k x n y m z l u o i w N X M Y L j h true false none 0 none 0 none 0 j H Q) (ba_.l4 k x n y m w N X M i H Q):=zz
theorem ba_.l13_eq:ba_.l13 (k+1) x n y m z l u o i w N X M Y L j h b c Z O U D x1 n1 g H Q=aK (leI 0 h&&ltI h (nI L)) Y H (tN h*1) λa=>av g (ad_ .i64 (j+a)) (cJ (leI 0 g&&ltI g (nI l)) z H (tN g*5) H (tN g*5) H (tN g*5) 1 H (tN g*5) 1 H (tN g*5) 1 (leI 0 i&&ltI i (nI m)) y H (tN i*5) (tN i*5) (tN i*5) (tN i*5) (tN i*5) (λa=>dO a 3 1 8 x1 n1 [i] λa d e=>av j g (aI (leI 0 g&&ltI g (nI o)) u e (tN g*1) (λf=>dO e 9 1 16 Z O [f] λe f p=>ba_.l13 k x n y m z l u o (ad_ .i64 (i+1)) w N X M Y L j h b c e f U D a d (ad_ .i64 (g+1)) p Q)) (ba_.l13 k x n y m z l u o (ad_ .i64 (i+1)) w N X M Y L j h b c Z O U D a d (ad_ .i64 (g+1)) e Q))) (dO H 100 5 80 w N [b,c,.sl Z O 1,.sl U D 1,.sl x1 n1 1] (λa b c=>aI (leI 0 j&&ltI j (nI o)) u c (tN j*1) λd=>dO c 9 1 16 X M [d] λc d e=>aK (leI 0 h&&ltI h (nI L)) Y e (tN h*1) λf=>ba_.l9 k x n y m z l u o i a b c d Y L (ad_ .i64 (j+f)) (ad_ .i64 (h+1)) e Q)):=zz
theorem xU_:am_ prog 102 (ba_):=sO (eZ ok_ func44 (eZ xm_ func151 (eZ po_ func152 eN))) nO func102
def bn_.cx:Cx:=⟨tys,[],[(4,[1,2,3,6,8]),(15,[1,2,6,12,13])],[],[(98,fX_),(99,dE_),(100,ce_),(101,bs_),(102,ba_)],aw_,[.cell 6 24,.tmp 7]⟩
def bn_:=fF bn_.cx f43
def bn_.l4 k a b c d e f g:=aS_ (bn_.cx) f43 4 k (.bad::gS a::gS b::.bx [.sl c d 5]::.bad::.bad::.bx [.sl e f 5]::.bad::gI g::B 103 [])
def bn_.l15 k a b c d e f g:=aS_ (bn_.cx) f43 15 k (.bad::gS a::gS b::B 3 (.bx [.sl c d 5]::B 5 (nL e f 2::gI g::B 98 [])))
theorem vM_:as_ bn_.cx f43 (k+1) [.agg [.sl x n 5],s,t] H Q=aM fX_ [.agg [.sl x n 5]] H Q [.a [.sl none 0 5],nN 1200] λa=>eO (sz s) 1 Q [.a [.sl none 0 5],nN 1200] a (eO 6 (sz s) Q [.a [.sl none 0 5],nN 1200] a (eO 10 (sz t) Q [.a [.sl none 0 5],nN 1200] a (bn_.l4 k s t x n none 0 0 a Q))):=zz
theorem bn_.l4_eq:bn_.l4 (k+1) s t x n y m i H Q=bP i n (aB (leI 0 i&&ltI i (nI n)) x (λa b=>dW H a (b+tN i*5+2) λa b=>cp dE_ [nL a b 1,s] H λa b c=>aB (leI 0 i&&ltI i (nI n)) x λd e=>dg a d (e+tN i*5+1) (cj_ c (bR ce_ [.agg [.sl x n 5]] a 5 (λa c d=>aB (leI 0 i&&ltI i (nI d)) c λe f=>cV a e (f+tN i*5+3) 1 0 b b λe f=>br a e (f+tN b*1) t Q [.a [.sl c d 5],nN 0])) (bn_.l4 k s t x n y m (ad_ .i64 (i+1)) a Q)) (bn_.l4 k s t x n y m (ad_ .i64 (i+1)) a Q))) (aE bs_ [.agg [.sl x n 5],nN 0,nL none 0 2] H 2 (λa b c=>ep 60 (nI c) Q [.a [.sl none 0 5],nN 1201] a (bn_.l15 k s t y m b c 0 a Q))):=zz
theorem bn_.l15_eq:bn_.l15 (k+1) s t x n y m i H Q=bP i m (bk (leI 0 i&&ltI i (nI m)) y H (tN i*2) (λa=>cj_ (dJ_ a s) (bn_.l15 k s t x n y m (ad_ .i64 (i+1)) H Q) (ct 0 i (fk (leN 0 (tN i)&&(leN (tN i) m||kr_ H y (tN i*2))) (cZ H (shf y 0) ((tN i-0)*2) H 131 2 32 none 0 (tN i-0) (λa b c=>dO c 131 2 32 a b [s,t] λa b c=>ct 0 i (fk (leN (tN i) m) (cZ c (shf y (tN i*2)) ((m-tN i)*2) c 131 2 32 a b (m-tN i) (λa b c=>bT ba_ [nL a b 2] c 5 Q (nN 0)))))))))) (ct 0 i (fk (leN 0 (tN i)&&(leN (tN i) m||kr_ H y (tN i*2))) (cZ H (shf y 0) ((tN i-0)*2) H 131 2 32 none 0 (tN i-0) (λa b c=>dO c 131 2 32 a b [s,t] λa b c=>ct 0 i (fk (leN (tN i) m) (cZ c (shf y (tN i*2)) ((m-tN i)*2) c 131 2 32 a b (m-tN i) (λa b c=>bT ba_ [nL a b 2] c 5 Q (nN 0)))))))):=zz
theorem v0_:am_ prog 43 (bn_):=sO (eZ pD_ func98 (eZ As_ func99 (eZ tM_ func100 (eZ ue_ func101 (eZ xU_ func102 eN))))) nO func43
def fm_.cx:Cx:=⟨tys,[16],[],[],[(213,dn_),(53,cH_)],aw_,[.tmp 4,.tmp 5]⟩
def fm_:=fF fm_.cx f210
theorem tE_:as_ fm_.cx f210 (k+1) [i,s] H Q=aM dn_ [i] H Q [mkS [],nN 1600] λa=>dE cH_ [s] a Q [mkS [],nN 1600] (.row true 5 [.int .u8 102,.int .u8 (ad_ .u8 i)]) 2 s Q (nN 0):=zz
theorem s0_:am_ prog 210 (fm_):=sO (eZ hY_ func213 (eZ gU_ func53 eN)) nO func210
def eK_.cx:Cx:=⟨tys,[9],[],[],[(213,dn_)],aw_,[.tmp 2,.tmp 3]⟩
def eK_:=fF eK_.cx f211
theorem qY_:as_ eK_.cx f211 (k+1) [i] H Q=cY dn_ [i] H Q [mkS [],nN 1600] (.row true 5 [.int .u8 105,.int .u8 (ad_ .u8 i)]) 2 λa b=>ax Q [b,nN 0] (pu a (.row true 5 [.int .u8 105,.int .u8 (ad_ .u8 i)])):=zz
theorem rv_:am_ prog 211 (eK_):=sO (eZ hY_ func213 eN) nO func211
def eE_.cx:Cx:=⟨tys,[10],[],[],[(169,dz_)],aw_,[.tmp 2,.tmp 3]⟩
def eE_:=fF eE_.cx f212
theorem ro_:as_ eE_.cx f212 (k+1) [.agg [i,s]] H Q=dE dz_ [.agg [i,s]] H Q [mkS [],nN 1800] (.row true 5 [.int .u8 (ad_ .u8 i)]) 1 s Q (nN 0):=zz
theorem rY_:am_ prog 212 (eE_):=sO (eZ ky_ func169 eN) nO func212
def ar_.cx:Cx:=⟨tys,[93],[(3,[0,2,3,4]),(9,[0,2,3,9]),(18,[0,2,3,14])],[(16,[0,2,3,9,10,11,13])],[(44,gH_),(208,fh_),(209,fi_),(43,bn_),(210,fm_),(211,eK_),(212,eE_)],aw_,[.cell 2 24]⟩
def ar_:=fF ar_.cx f167
def ar_.l3 k a b c d e f:=aS_ (ar_.cx) f167 3 k (gP a::.bad::.bx [.sl b c 5]::.bx [.sl d e 5]::gI f::B 134 [])
def ar_.l9 k a b c d e f:=aS_ (ar_.cx) f167 9 k (gP a::.bad::.bx [.sl b c 5]::.bx [.sl d e 5]::B 5 (gI f::B 129 []))
def ar_.l16 k a b c d e f g h i j l m:=aS_ (ar_.cx) f167 16 k (gP a::.bad::.bx [.sl b c 5]::.bx [.sl d e 5]::B 5 (gI f::.bx [.int .i64 g,.str h,.int .i64 i,.bool j]::gS l::.bad::.g (.int .u8 m)::B 125 []))
def ar_.l18 k a b c d e f:=aS_ (ar_.cx) f167 18 k (gP a::.bad::.bx [.sl b c 5]::.bx [.sl d e 5]::B 10 (gI f::B 124 []))
theorem pm_:as_ ar_.cx f167 (k+1) [x] H Q=bR gH_ [] H 5 λa b c=>ar_.l3 k x none 0 b c 0 a Q:=zz
theorem ar_.l3_eq:ar_.l3 (k+1) x y n z m i H Q=fg x H 5 i (cG x H 5 0 i i (λa b=>ah H a (b+tN i*5+0) λa=>dy fh_ [a] H λa b=>cG x a 5 0 i i λc d=>aq a c (d+tN i*5+1) λe=>aq a c (d+tN i*5+1+1) λf=>dU a c (d+tN i*5+1+1+1) a c (d+tN i*5+1+1+1+1) λc d=>dy fi_ [.agg [e,f,c,d]] a λa c=>dG bn_ [.agg [.sl z m 5],b,c] a 5 λa b c=>ar_.l3 k x y n b c (ad_ .i64 (i+1)) a Q)) (ar_.l9 k x y n z m 0 H Q):=zz
theorem ar_.l9_eq:ar_.l9 (k+1) x y n z m i H Q=cD x H 4 i (di x H 4 0 i i (λa b=>aq H a (b+tN i*4) λc=>ah H a (b+tN i*4+1) λd=>aq H a (b+tN i*4+1+1) λe=>aD H a (b+tN i*4+1+1+1) λa=>dy fm_ [c,d] H λb f=>cj_ a (ar_.l16 k x y n z m i c d e a f 1 b Q) (ar_.l16 k x y n z m i c d e a f 0 b Q))) (ar_.l18 k x y n z m 0 H Q):=zz
theorem ar_.l16_eq:ar_.l16 (k+1) x y n z m i j s h b t g H Q=rdN (pu H (.row true 5 [.int .u8 (ad_ .u8 h),.int .u8 g])) (some (ln H,0)) 2 λa=>txt a λa=>dG bn_ [.agg [.sl z m 5],t,a] (pu H (.row true 5 [.int .u8 (ad_ .u8 h),.int .u8 g])) 5 λa b c=>ar_.l9 k x y n b c (ad_ .i64 (i+1)) a Q:=zz
theorem ar_.l18_eq:ar_.l18 (k+1) x y n z m i H Q=dz x H 3 i (eu x H 3 0 i i (λa b=>aq H a (b+tN i*3+0) λa=>dy eK_ [a] H λa b=>eu x a 3 0 i i λc d=>aq a c (d+tN i*3+1) λe=>ah a c (d+tN i*3+1+1) λc=>dy eE_ [.agg [e,c]] a λa c=>dG bn_ [.agg [.sl z m 5],b,c] a 5 λa b c=>ar_.l18 k x y n b c (ad_ .i64 (i+1)) a Q)) (eM Q [.sl z m 5] H):=zz
theorem o0_:am_ prog 167 (ar_):=sO (eZ ok_ func44 (eZ sD_ func208 (eZ tG_ func209 (eZ v0_ func43 (eZ s0_ func210 (eZ rv_ func211 (eZ rY_ func212 eN))))))) nO func167
def cs_.cx:Cx:=⟨tys,[],[],[],[(165,dV_),(166,bI_),(167,ar_)],aw_,[.cell 2 24]⟩
def cs_:=fF cs_.cx f122
theorem oY_:as_ cs_.cx f122 (k+1) [x] H Q=aH dV_ [x] H λa b=>av 60 b (cl bI_ [x] a (λ_ a=>bR ar_ [x] a 5 λa b c=>eM Q [.sl b c 5] a)) (bR ar_ [x] a 5 (λa b c=>eM Q [.sl b c 5] a)):=zz
theorem g6_:am_ prog 122 (cs_):=sO (eZ ph_ func165 (eZ nf_ func166 (eZ o0_ func167 eN))) nO func122
def a5_.cx:Cx:=⟨tys,[],[(12,[1,2,3,8,10,14,15,16,17])],[(18,[1,2,3,8,10,14])],[(28,bN_),(66,ax_),(37,bd_),(121,aH_),(52,aT_),(55,aQ_),(122,cs_)],aw_,[.cell 8 24,.tmp 9]⟩
def a5_:=fF a5_.cx f70
def a5_.l12 k a b c d e f g h i j:=aS_ (a5_.cx) f70 12 k (.bad::gS a::gS b::gI c::B 4 (.bx [.sl d e 5]::.bad::gP f::B 3 (gI g::gI h::gI i::gI j::B 106 [])))
def a5_.l18 k a b c d e f g:=aS_ (a5_.cx) f70 18 k (.bad::gS a::gS b::gI c::B 4 (.bx [.sl d e 5]::.bad::gP f::B 3 (gI g::B 109 [])))
theorem tJ_:as_ a5_.cx f70 (k+1) [.agg [.sl x n 5],s,t,i] H Q=eQ bN_ [.agg [.sl x n 5]] H λa b c=>aL c Q [.a [.sl none 0 5],nN 2000] a (aE ax_ [b] a 5 (λa c d=>bM bd_ [nL c d 5,s,t,i] a 5 λa c _ _=>cU c 0 Q (.a [.sl none 0 5]) a (aH aH_ [b] a (λa c=>eG t [] (dv b a 5 (λd e f g=>aH aT_ [b,t] a λa h=>bN a d (e+0) 5 (nL f g 5) (cL (leI 0 h&&ltI h (nI g)) f a (tN h*5) (λd=>dp b a 4 λ_ e=>a5_.l12 k s t i none 0 b c d (nI e) 0 a Q)))) (a5_.l18 k s t i none 0 b c a Q))))):=zz
theorem a5_.l12_eq:a5_.l12 (k+1) s t i x n y j h g I H Q=av I g (di y H 4 0 I I (λa b=>aq H a (b+tN I*4) λc=>ah H a (b+tN I*4+1) λd=>aq H a (b+tN I*4+1+1) λe=>aD H a (b+tN I*4+1+1+1) λ_=>bj c h (dp y H 4 (λa b=>fe H 87 4 40 a b [j,d,e,false] y λa=>pS y λb c=>aa a b (c+2) 3 λd f=>aH aQ_ [y,e] a λa e=>aa a b (c+2) 3 λb c=>eqv (nL d f 3) (nL b c 3) (cL (leI 0 e&&ltI e (nI f)) d a (tN e*3) (λb=>aB (leI 0 e&&ltI e (nI f)) d λc d=>wr a c (d+tN e*3+1+0) (ad_ .i64 (b+1)) λa=>a5_.l12 k s t i x n y j h g (ad_ .i64 (I+1)) a Q)))) (a5_.l12 k s t i x n y j h g (ad_ .i64 (I+1)) H Q))) (a5_.l18 k s t i x n y j H Q):=zz
theorem a5_.l18_eq:a5_.l18 (k+1) s t i x n y j H Q=bw y H 5 λa b=>dO H 83 5 64 a b [s,j,i,t,mkS []] λa b c=>pS y λd e=>dx c d (e+0) a b 5 λa=>bT cs_ [y] a 5 Q (nN 0):=zz
theorem sM_:am_ prog 70 (a5_):=sO (eZ i1_ func28 (eZ d9_ func66 (eZ r4_ func37 (eZ mS_ func121 (eZ fe_ func52 (eZ ea_ func55 (eZ g6_ func122 eN))))))) nO func70
def ex_.cx:Cx:=⟨tys,[],[],[],[(95,ci_)],aw_,[.tmp 4,.tmp 5]⟩
def ex_:=fF ex_.cx f67
theorem uz_:as_ ex_.cx f67 (k+1) [nL x n 5,s] H Q=aH ci_ [nL x n 5,s] H λa b=>eO b 0 Q [nN 0,nN 1903] a (cn (leI 0 b&&ltI b (nI n)) x a (tN b*5) (λc=>bV c 0 Q [nN 0,nN 1905] a (ax Q [b,nN 0] a))):=zz
theorem mp_:am_ prog 67 (ex_):=sO (eZ kv_ func95 eN) nO func67
def cn_.cx:Cx:=⟨tys,[],[(2,[0,1,5])],[],[],aw_,[.tmp 4]⟩
def cn_:=fF cn_.cx f68
def cn_.l2 k a b c d:=aS_ (cn_.cx) f68 2 k (nL a b 3::gS c::B 3 (gI d::B 14 []))
theorem u1_:as_ cn_.cx f68 (k+1) [nL x n 3,s] H Q=cn_.l2 k x n s 0 H Q:=zz
theorem cn_.l2_eq:cn_.l2 (k+1) x n s i H Q=bP i n (bk (leI 0 i&&ltI i (nI n)) x H (tN i*3) (λa=>cK a s (Q i H) (cn_.l2 k x n s (ad_ .i64 (i+1)) H Q))) (en Q .i64 (-1) H):=zz
theorem ut_:am_ prog 68 (cn_):=sO eN nO func68
def a2_.cx:Cx:=⟨tys,[],[(22,[2,10,13,14,15,16])],[(26,[2,10,13,14,15,16]),(29,[10,13,15])],[(29,aV_),(51,bt_),(67,ex_),(68,cn_),(53,cH_),(69,bg_)],aw_,[.tmp 8,.tmp 9]⟩
def a2_:=fF a2_.cx f23
def a2_.l22 k a b c d e f g h i j:=aS_ (a2_.cx) f23 22 k (.bad::.bad::gS a::B 7 (gI b::.bad::.bad::nL c d 5::.bx [.str e,.str f,.bool g]::nL h i 3::gI j::B 119 []))
def a2_.l26 k a b c d e f g h i j:=aS_ (a2_.cx) f23 26 k (.bad::.bad::gS a::B 7 (gI b::.bad::.bad::nL c d 5::.bx [.str e,.str f,.bool g]::nL h i 3::gI j::B 119 []))
def a2_.l29 k a b c d e:=aS_ (a2_.cx) f23 29 k (B 10 (gI a::.bad::.bad::nL b c 5::.bad::nL d e 3::B 120 []))
theorem wu_:as_ a2_.cx f23 (k+1) [nL x n 5,s,t,r] H Q=d9 aV_ [nL x n 5] H Q [.s (.sl none 0 5),nN 1900] bt_ [s] Q [.s (.sl none 0 5),nN 1901] λa=>bz ex_ [nL x n 5,s] a λa b c=>cU b 0 Q (.s (.sl none 0 5)) a (ca (leI 0 c&&ltI c (nI n)) x a (tN c*5) 3 (λb d=>aH cn_ [nL b d 3,t] a λa b=>aM cH_ [t] a Q [.s (.sl none 0 5),nN 1907] λa=>eO 6 (sz r) Q [.s (.sl none 0 5),nN 1909] a (av b 0 (ca (leI 0 c&&ltI c (nI n)) x a (tN c*5) 3 (λ_ d=>ep 4 (nI d) Q [.s (.sl none 0 5),nN 1910] a (aE bg_ [nL x n 5] a 5 (λa d e=>bc 0 b (du (leI 0 c&&ltI c (nI e)) d a (tN c*5) 3 0 b b (λc f=>aG a c (f+tN b*3) t c (f+tN b*3+1) r λa=>br a c (f+tN b*3+1+1) true Q [.s (.sl d e 5),nN 0])) (a2_.l22 k t c d e t r true none 0 0 a Q))))) (aE bg_ [nL x n 5] a 5 (λa d e=>bc 0 b (du (leI 0 c&&ltI c (nI e)) d a (tN c*5) 3 0 b b (λc f=>aG a c (f+tN b*3) t c (f+tN b*3+1) r λa=>br a c (f+tN b*3+1+1) true Q [.s (.sl d e 5),nN 0])) (a2_.l22 k t c d e t r true none 0 0 a Q)))))):=zz
theorem a2_.l22_eq:a2_.l22 (k+1) s i x n t r b y m j H Q=aB (leI 0 i&&ltI i (nI n)) x λa c=>aX H a (c+tN i*5+4) 3 j (bj (nI m) j (du (leI 0 i&&ltI i (nI n)) x H (tN i*5) 3 0 j j (λa c=>ah H a (c+tN j*3+0) λa=>aC (dJ_ a s||fy_ a s) (dO H 108 3 40 y m [t,r,b] (λa c d=>a2_.l26 k s i x n t r b a c j d Q)) (a2_.l26 k s i x n t r b y m j H Q))) (a2_.l26 k s i x n t r b y m j H Q)) (ca (leI 0 i&&ltI i (nI n)) x H (tN i*5) 3 (λ_ a=>bj (nI m) (nI a) (dO H 108 3 40 y m [t,r,b] (λa b c=>a2_.l29 k i x n a b c Q)) (a2_.l29 k i x n y m H Q))):=zz
theorem a2_.l26_eq:a2_.l26 (k+1) s i x n t r b y m j H Q=du (leI 0 i&&ltI i (nI n)) x H (tN i*5) 3 0 j j λa c=>dU H a (c+tN j*3) H a (c+tN j*3+1) λd e=>aD H a (c+tN j*3+1+1) λa=>dO H 108 3 40 y m [d,e,a] λa c d=>a2_.l22 k s i x n t r b a c (ad_ .i64 (j+1)) d Q:=zz
theorem a2_.l29_eq:a2_.l29 (k+1) i x n y m H Q=aB (leI 0 i&&ltI i (nI n)) x λa b=>br H a (b+tN i*5+4) (.sl y m 3) Q [.s (.sl x n 5),nN 0]:=zz
theorem vu_:am_ prog 23 (a2_):=sO (eZ eQ_ func29 (eZ dR_ func51 (eZ mp_ func67 (eZ ut_ func68 (eZ gU_ func53 (eZ kS_ func69 eN)))))) nO func23
def aZ_.cx:Cx:=⟨tys,[],[(2,[0,3])],[],[(55,aQ_)],aw_,[.tmp 2]⟩
def aZ_:=fF aZ_.cx f124
def aZ_.l2 k a b:=aS_ (aZ_.cx) f124 2 k (gP a::.bad::.bad::gI b::B 9 [])
theorem kV_:as_ aZ_.cx f124 (k+1) [x] H Q=aZ_.l2 k x 1 H Q:=zz
theorem aZ_.l2_eq:aZ_.l2 (k+1) x i H Q=bc i 255 (aH aQ_ [x,i] H (λa b=>av b 0 (Q i a) (aZ_.l2 k x (ad_ .i64 (i+1)) a Q))) (Q (nN 0) H):=zz
theorem kN_:am_ prog 124 (aZ_):=sO (eZ ea_ func55 eN) nO func124
def cw_.cx:Cx:=⟨tys,[],[],[(10,[1,2,3,8,10])],[(28,bN_),(66,ax_),(23,a2_),(54,a7_),(123,aG_),(124,aZ_),(52,aT_),(122,cs_)],aw_,[.cell 8 24,.tmp 9]⟩
def cw_:=fF cw_.cx f71
def cw_.l10 k a b c d e f:=aS_ (cw_.cx) f71 10 k (.bad::gS a::gS b::gS c::B 4 (.bx [.sl d e 5]::.bad::gP f::B 75 []))
theorem wy_:as_ cw_.cx f71 (k+1) [.agg [.sl x n 5],s,t,r] H Q=eQ bN_ [.agg [.sl x n 5]] H λa b c=>aL c Q [.a [.sl none 0 5],nN 2000] a (aE ax_ [b] a 5 (λa c d=>bM a2_ [nL c d 5,s,t,r] a 5 λa c _ _=>cU c 0 Q (.a [.sl none 0 5]) a (aH a7_ [b,s,t] a (λa c=>bc 0 c (cl aG_ [b,c] a (λ_ a=>cw_.l10 k s t r none 0 b a Q)) (cw_.l10 k s t r none 0 b a Q))))):=zz
theorem cw_.l10_eq:cw_.l10 (k+1) s t r x n y H Q=aH aZ_ [y] H λa b=>cI y a 3 λc d=>dO a 65 3 32 c d [b,nN 1,r] λa c d=>pS y λe f=>dx d e (f+2) a c 3 λa=>pS y λc d=>aa a c (d+1) 4 λe f=>dv y a 5 λg h i j=>aH aT_ [y,s] a λa l=>bN a g (h+0) 5 (nL i j 5) (aa a c (d+1) 4 (λc d=>eqv (nL e f 4) (nL c d 4) (cL (leI 0 l&&ltI l (nI j)) i a (tN l*5) (λc=>fe a 87 4 40 e f [c,t,b,true] y λa=>bT cs_ [y] a 5 Q (nN 0))))):=zz
theorem wm_:am_ prog 71 (cw_):=sO (eZ i1_ func28 (eZ d9_ func66 (eZ vu_ func23 (eZ m4_ func54 (eZ je_ func123 (eZ kN_ func124 (eZ fe_ func52 (eZ g6_ func122 eN)))))))) nO func71
def bS_.cx:Cx:=⟨tys,[],[(3,[0,1,5,6])],[],[],aw_,[.tmp 4]⟩
def bS_:=fF bS_.cx f97
def bS_.l3 k a b c d e f:=aS_ (bS_.cx) f97 3 k (nL a b 5::gI c::B 3 (nL d e 5::gI f::B 17 []))
theorem sN_:as_ bS_.cx f97 (k+1) [nL x n 5,i] H Q=bS_.l3 k x n i none 0 0 H Q:=zz
theorem bS_.l3_eq:bS_.l3 (k+1) x n i y m j H Q=bP j n (eU j i (cP (leI 0 j&&ltI j (nI n)) x H (tN j*5) H H H H 3 (λa b c d e f=>dO H 52 5 80 y m [a,b,c,d,.sl e f 3] λa b c=>bS_.l3 k x n i a b (ad_ .i64 (j+1)) c Q)) (bS_.l3 k x n i y m (ad_ .i64 (j+1)) H Q)) (dN Q y m 5 H):=zz
theorem r7_:am_ prog 97 (bS_):=sO eN nO func97
def fQ_.cx:Cx:=⟨tys,[],[],[],[(29,aV_),(51,bt_),(67,ex_),(95,ci_),(69,bg_),(97,bS_),(96,a4_)],aw_,[.tmp 6,.tmp 7]⟩
def fQ_:=fF fQ_.cx f38
theorem uI_:as_ fQ_.cx f38 (k+1) [nL x n 5,s,t] H Q=d9 aV_ [nL x n 5] H Q [.s (.sl none 0 5),nN 1900] bt_ [s] Q [.s (.sl none 0 5),nN 1901] λa=>aM bt_ [t] a Q [.s (.sl none 0 5),nN 1901] λa=>bz ex_ [nL x n 5,s] a λa b c=>cU b 0 Q (.s (.sl none 0 5)) a (aH ci_ [nL x n 5,t] a (λa b=>ep 0 b Q [.s (.sl none 0 5),nN 1902] a (aE bg_ [nL x n 5] a 5 (λa b d=>bo (leI 0 c&&ltI c (nI d)) b a (tN c*5) λe f _=>aq a e (f+tN c*5+1) λ_=>dU a e (f+tN c*5+1+1) a e (f+tN c*5+1+1+1) λg h=>aa a e (f+tN c*5+1+1+1+1) 3 λe f=>eJ bS_ [nL b d 5,c] a 5 a4_ [t,nN 2,g,h,.sl e f 3] 5 Q (nN 0))))):=zz
theorem uW_:am_ prog 38 (fQ_):=sO (eZ eQ_ func29 (eZ dR_ func51 (eZ mp_ func67 (eZ kv_ func95 (eZ kS_ func69 (eZ r7_ func97 (eZ pr_ func96 eN))))))) nO func38
def e9_.cx:Cx:=⟨tys,[],[],[],[(28,bN_),(66,ax_),(38,fQ_),(52,aT_),(122,cs_)],aw_,[.cell 6 24,.tmp 7]⟩
def e9_:=fF e9_.cx f72
theorem us_:as_ e9_.cx f72 (k+1) [.agg [.sl x n 5],s,t] H Q=eQ bN_ [.agg [.sl x n 5]] H λa b c=>aL c Q [.a [.sl none 0 5],nN 2000] a (aE ax_ [b] a 5 (λa c d=>bM fQ_ [nL c d 5,s,t] a 5 λa c _ _=>cU c 0 Q (.a [.sl none 0 5]) a (aH aT_ [b,s] a (λa c=>cG b a 5 0 c c λd e=>wr a d (e+tN c*5+0) t λa=>cG b a 5 0 c c λd e=>wr a d (e+tN c*5+1+1) (nN 2) λa=>bT cs_ [b] a 5 Q (nN 0))))):=zz
theorem u2_:am_ prog 72 (e9_):=sO (eZ i1_ func28 (eZ d9_ func66 (eZ uW_ func38 (eZ fe_ func52 (eZ g6_ func122 eN))))) nO func72
def fS_.cx:Cx:=⟨tys,[],[],[],[(44,gH_),(70,a5_),(71,cw_),(72,e9_)],aw_,[.cell 0 24]⟩
def fS_:=fF fS_.cx f26
theorem uD_:as_ fS_.cx f26 (k+1) [] H Q=bR gH_ [] H 5 λa b c=>eF a5_ [.agg [.sl b c 5],mkS [119],mkS [],nN 0] a 5 cw_ (mkS [119]) (mkS [97]) (mkS [111,110,101]) 5 λa b c=>eF e9_ [.agg [.sl b c 5],mkS [119],mkS [98,97,115,101]] a 5 a5_ (mkS [119,111,114,107]) (mkS [98,97,115,101]) (nN 0) 5 λa b c=>dG cw_ [.agg [.sl b c 5],mkS [119,111,114,107],mkS [98],mkS [116,119,111]] a 5 λa b c=>eM Q [.sl b c 5] a:=zz
theorem uH_:am_ prog 26 (fS_):=sO (eZ ok_ func44 (eZ sM_ func70 (eZ wm_ func71 (eZ u2_ func72 eN)))) nO func26
end Go.Am
namespace Go.Am
open List
open Go.Proofs.Tryz
variable{E:Nat->Sm}{k:Nat}{H:Hp}{Q:Post}{U X Y Z u w x x1 y z:Pl}{D L M N O l m n n1 o:Nat}{I g h i j:Int}{C b b1 b2 c d:Bool}{R S e r s t:ByteArray}{A a:Option Nat}{p q:List (Nat×Nat)}{F:Sm}
def gp_.cx E:=(⟨tys,[],[],[],[(26,fS_),(15,(f4_ E)),(17,dG_),(21,dI_),(18,dc_),(19,fJ_)],E,[.tmp 0]⟩:Cx)
def gp_ E:=fF (gp_.cx E) f22
theorem vv_:as_ (gp_.cx E) f22 (k+1) [] H Q=bR fS_ [] H 5 λa b c=>bQ (f4_ E) [.agg [.sl b c 5],mkS [119,111,114,107],mkS [97]] a λa d e=>bg d λd=>ff dG_ [.agg [.sl b c 5],mkS [119,111,114,107],mkS [97],mkS [115,105,120]] a 5 λa f g h=>bM dI_ [.agg [.sl f g 5]] a 5 λa f g i=>ba f (ff dc_ [.agg [.sl b c 5],mkS [119,111,114,107],mkS [98]] a 5 (λa f j l=>bM dI_ [.agg [.sl f j 5]] a 5 λa f j m=>ba f (bf dG_ [.agg [.sl b c 5],mkS [98,97,115,101],mkS [97],mkS []] a (λa f n=>aA n 5 λn _ _=>uN n (bg f (λf=>bQ (f4_ E) [.agg [.sl b c 5],mkS [98,97,115,101],mkS [122]] a λa b _=>bg b λb=>bQ (f4_ E) [.agg [.sl none 0 5],mkS [98,97,115,101],mkS [97]] a λa c _=>bg c λc=>cQ (nI i) 2 Q a (cQ (nI m) 2 Q a (ca (leI 0 0&&ltI 0 (nI i)) g a (tN 0*5) 3 (λ_ n=>cQ (nI n) 1 Q a (ca (leI 0 1&&ltI 1 (nI i)) g a (tN 1*5) 3 (λ_ n=>cQ (nI n) 2 Q a (fh e [111,110,101] (aH fJ_ [d] a (λa d=>e8 d 0 Q a (ca (leI 0 1&&ltI 1 (nI i)) g a (tN 1*5) 3 (λd e=>dQ (leI 0 0&&ltI 0 (nI e)) d a (tN 0*3) λd=>fh d [115,105,120] (ca (leI 0 0&&ltI 0 (nI i)) g a (tN 0*5) 3 (λd e=>dQ (leI 0 0&&ltI 0 (nI e)) d a (tN 0*3) λd=>fh d [111,110,101] (aH fJ_ [h] a (λa d=>e8 d 0 Q a (ca (leI 0 1&&ltI 1 (nI m)) j a (tN 1*5) 3 (λ_ d=>e8 (nI d) 1 Q a (aH fJ_ [l] a (λa d=>e8 d 0 Q a (aH fJ_ [f] a (λa d=>e8 d 1905 Q a (aH fJ_ [b] a (λa b=>e8 b 1908 Q a (aH fJ_ [c] a (λa b=>dh Q b 2000 a)))))))))))) (aP Q a))) (aP Q a))))) (aP Q a))))))))))))):=zz
theorem xB_(E)(h:eE E):am_ prog 22 (gp_ E):=sO (eZ uH_ func26 (eZ (x3_ E h) func15 (eZ nH_ func17 (eZ nr_ func21 (eZ mj_ func18 (eZ uc_ func19 eN)))))) h func22
def bM_.cx:Cx:=⟨tys,[],[(4,[0,1,5])],[],[],aw_,[.tmp 4]⟩
def bM_:=fF bM_.cx f73
def bM_.l4 k a b c d e:=aS_ (bM_.cx) f73 4 k (nL a b 3::nL c d 3::B 3 (gI e::B 20 []))
theorem rE_:as_ bM_.cx f73 (k+1) [nL x n 3,nL y m 3] H Q=cQ (nI n) (nI m) Q H (bM_.l4 k x n y m 0 H Q):=zz
theorem bM_.l4_eq:bM_.l4 (k+1) x n y m i H Q=bP i n (dn (leI 0 i&&ltI i (nI n)) x H (tN i*3) H H (λa b c=>dn (leI 0 i&&ltI i (nI m)) y H (tN i*3) H H λd e f=>bv (fy_ a d&&(fy_ b e&&(eqB c f&&true))) Q H (bM_.l4 k x n y m (ad_ .i64 (i+1)) H Q))) (Q true H):=zz
theorem rQ_:am_ prog 73 (bM_):=sO eN nO func73
def fr_.cx:Cx:=⟨tys,[],[],[],[(73,bM_)],aw_,[.tmp 4]⟩
def fr_:=fF fr_.cx f27
theorem s7_:as_ fr_.cx f27 (k+1) [.agg [s,i,t,r,.sl x n 3],.agg [S,j,R,e,.sl y m 3]] H Q=cK s S (e8 i j Q H (cK t R (cK r e (bZ bM_ [nL x n 3,nL y m 3] H Q) (aP Q H)) (aP Q H))) (aP Q H):=zz
theorem sa_:am_ prog 27 (fr_):=sO (eZ rQ_ func73 eN) nO func27
def aB_.cx E:=(⟨tys,[],[(13,[1,11,13,15,17]),(20,[15,18,20,21])],[(6,[1,5,11,12])],[(22,(gp_ E)),(17,dG_),(18,dc_),(19,fJ_),(20,b5_),(21,dI_),(27,fr_),(28,bN_),(29,aV_)],E,[.tmp 10]⟩:Cx)
def aB_ E:=fF (aB_.cx E) f6
def aB_.l6 E k a b c d e f:=aS_ (aB_.cx E) f6 6 k (.bad::gS a::B 3 (.bx [.sl b c 5]::B 5 (.bx [.sl d e 5]::gI f::B 117 [])))
def aB_.l13 E k a b c d e f g h:=aS_ (aB_.cx E) f6 13 k (.bad::gS a::B 9 (.bx [.sl b c 5]::.bad::nL d e 5::.bad::nL f g 5::.bad::gI h::B 112 []))
def aB_.l20 E k a b c d e:=aS_ (aB_.cx E) f6 20 k (B 15 (nL a b 5::.bad::.bad::gP c::.bad::gI d::gI e::B 108 []))
theorem pb_:as_ (aB_.cx E) f6 (k+1) [.agg [.sl x n 5],s,t,r,b] H Q=bD (gp_ E) [] H Q λa=>ff dG_ [.agg [.sl x n 5],s,t,r] a 5 λa c d e=>cj_ b (ff dc_ [.agg [.sl x n 5],s,t] a 5 (λa b c d=>aB_.l6 E k s x n b c d a Q)) (aB_.l6 E k s x n c d e a Q):=zz
theorem aB_.l6_eq:aB_.l6 E (k+1) s x n y m i H Q=aH fJ_ [i] H λa b=>eU b 0 (bZ b5_ [.agg [.sl y m 5],.agg [.sl none 0 5]] a Q) (fd dI_ [.agg [.sl x n 5]] a 5 (λa b c d=>fd dI_ [.agg [.sl y m 5]] a 5 λa e f g=>cQ d 0 Q a (cQ g 0 Q a (cQ (nI c) (nI f) Q a (aB_.l13 E k s y m b c e f 0 a Q))))):=zz
theorem aB_.l13_eq:aB_.l13 E (k+1) s x n y m z l i H Q=bP i m (bk (leI 0 i&&ltI i (nI m)) y H (tN i*5) (λa=>dC a s (cP (leI 0 i&&ltI i (nI m)) y H (tN i*5) H H H H 3 (λa b c d e f=>cP (leI 0 i&&ltI i (nI l)) z H (tN i*5) H H H H 3 λg h j o p q=>bD fr_ [.agg [a,b,c,d,.sl e f 3],.agg [g,h,j,o,.sl p q 3]] H Q λa=>aB_.l13 E k s x n y m z l (ad_ .i64 (i+1)) a Q)) (aB_.l13 E k s x n y m z l (ad_ .i64 (i+1)) H Q))) (da bN_ [.agg [.sl x n 5]] H (λa b c=>aW b λb _=>uE b (aB_.l20 E k z l c 0 0 a Q))):=zz
theorem aB_.l20_eq:aB_.l20 E (k+1) x n y i j H Q=dz y H 3 j (fl y H 3 0 j j H (tN j*3) (λa=>aB_.l20 E k x n y (ad_ .i64 (i+a)) (ad_ .i64 (j+1)) H Q)) (dp y H 4 (λ_ a=>e8 i (nI a) Q H (bZ aV_ [nL x n 5] H Q))):=zz
theorem pk_(E)(h:eE E):am_ prog 6 (aB_ E):=sO (eZ (xB_ E h) func22 (eZ nH_ func17 (eZ mj_ func18 (eZ uc_ func19 (eZ sC_ func20 (eZ nr_ func21 (eZ sa_ func27 (eZ i1_ func28 (eZ eQ_ func29 eN))))))))) h func6
end Go.Am
namespace Go.Am
open List
open Go.Proofs.Tryz
variable{E:Nat->Sm}{k:Nat}{H:Hp}{Q:Post}{U X Y Z u w x x1 y z:Pl}{D L M N O l m n n1 o:Nat}{I g h i j:Int}{C b b1 b2 c d:Bool}{R S e r s t:ByteArray}{A a:Option Nat}{p q:List (Nat×Nat)}{F:Sm}
end Go.Am
namespace Go.Am
open List
theorem ow_:cS_ ((f,s)::l) f=s:=by simp[cS_]
theorem pV_(h:f≠g):cS_ ((g,s)::l) f=cS_ l f:=by
 unfold cS_;grind
theorem pw_(r:Q (gB (decide (1<=s.size)&&decide (s.size<=6))) H):dr_ [gS s] H Q:=by
 refine⟨1,?_⟩;rw[Bx_];refine aa_ (λh=>?_) λh=>?_
 .simp[ks_]at h ⊢;rw[lE (show 1<=s.size by omega),Bool.true_and]at r;rw[show decide ((s.size:Int)<=6)=decide (s.size<=6) by rw[decide_eq_decide];omega];exact r
 .simp[ks_]at h;grind
theorem mk_(h:Q (gB (decide (s.size<=10))) H):cp_ [gS s] H Q:=by
 refine⟨1,?_⟩;rw[ya_];simp[ks_];rw[show decide ((s.size:Int)<=10)=decide (s.size<=10) by rw[decide_eq_decide];omega];exact h
theorem x1_(r:Q (gB (decide (1<=k)&&decide (k<48))) H):dO_ [gI k] H Q:=by
 refine⟨1,?_⟩;rw[A5_];refine aa_ (λh=>?_) λh=>?_
 .simp_all
 .simp at h;grind
def it_(xs:List Y_):Prop:=∀i,(h:i+1<xs.length)->dJ_ (xs[i]'o_) xs[i+1]=true
theorem tA_ (h:Ss H a n xs) (F:∀b,(b=true↔it_ xs)->Q (gB b) H):
 ∀m k:Nat,xs.length-k=m->(∀i,(hi:i+1<xs.length)->i<k->dJ_ (xs[i]'o_) xs[i+1]=true)->∃f,cL_.l2 f a n ((k+1:Nat):Int) H Q:=by
 intro m;have U:=h.len;have G:=h.lim;induction m with
 |zero=>
  refine λk I C=>⟨1,?_⟩;rw[cL_.l2_eq,show ltI ((k+1:Nat)) (nI n)=false by simp;omega,gA_];exact F true ⟨λ_ i hi=>C i hi o_,λ_=>rfl⟩
 | succ m O=>
  intro k I C;by_cases r:k+1<xs.length
  ·have A:ltI ((k+1:Nat)) (nI n)=true:=by simp;omega
   cases D:dJ_ (xs[k]'o_) xs[k+1] with
   | true=>
    have⟨f,N⟩:=O (k+1) o_ (λi hi J=>by
     by_cases e:i=k
     .grind
     .exact C i hi o_)
    refine⟨f+1,?_⟩;rw[cL_.l2_eq,az_ A,af_,h.rd k (ef_ o_) o_,af_,h.rd (k+1) rfl r,aA_ g_,an_ o_];exact N
   |false=>
    refine⟨1,?_⟩;rw[cL_.l2_eq,az_ A,af_,h.rd k (ef_ o_) o_,af_,h.rd (k+1) rfl r,az_ (by rw[D];rfl)];refine F false ⟨λq=>(by cases q),λq=>?_⟩;rw[q k r]at D;cases D
  .refine⟨1,?_⟩;rw[cL_.l2_eq,show ltI ((k+1:Nat)) (nI n)=false by simp;omega,gA_];exact F true ⟨λ_ i hi=>C i hi o_,λ_=>rfl⟩
theorem tg_(h:Ss H a n xs)(A:∀b,(b=true↔it_ xs)->Q (gB b) H):cL_ [nL a n 1] H Q:=by
 have⟨f,r⟩:=tA_ h A _ 0 rfl (λi C h=>by omega);exact⟨f+1,r⟩
theorem l1_{p:Y_->Bool}(A:∀(s:Y_)(H:Hp)(Q:Post),Q (gB (p s)) H->E f [gS s] H Q)(h:gt H l 0=some (.fn f []))
 (r:Q (gB (!(p s))) H):c5_ E [gS s,yQ l] H Q:=by
 refine⟨1,?_⟩;rw[or_,ac_ h,IL_];exact A s H _ r
theorem rD_ {p:Y_->Bool} (I:∀(s:Y_)(Q:Post),Q (gB (p s)) H->E g [gS s,yQ l] H Q)
 (h:Ss H a n xs) (V:∀i:Int,(0<=i↔∃s∈xs,p s=true)->Q (gI i) H):
 ∀m k:Nat,xs.length-k=m->k<=xs.length->(∀i,(hi:i<xs.length)->i<k->p xs[i]=false)->∃f,aL_.l2 E f a n g [(l,0)] (nI n) (k:Int) H Q:=by
 intro m;have Y:=h.len;have F:=h.lim;induction m with
 |zero=>
  refine λk J D G=>⟨1,?_⟩;rw[aL_.l2_eq,show ltI k (nI n)=false by simp;omega,gA_];refine V _ ⟨λq=>by omega,fun⟨s,C,W⟩=>?_⟩;obtain⟨i,hi,rfl⟩:=kK C;grind
 | succ m U=>
  intro k J D G;have r:k<xs.length:=by omega
  have A:ltI k (nI n)=true:=by simp;omega
  cases C:p xs[k] with
  | false=>
   have⟨f,O⟩:=U (k+1) o_ o_ (λi hi N=>by
    by_cases e:i=k
    .grind
    .exact G i hi o_)
   refine⟨f+1,?_⟩;rw[aL_.l2_eq,az_ A,af_,h.rd k rfl r];refine I _ _ ?_;rw[aO_,ao_,C,gA_,an_ o_];exact O
  |true=>
   refine⟨1,?_⟩;rw[aL_.l2_eq,az_ A,af_,h.rd k rfl r];refine I _ _ ?_;rw[aO_,ao_,C,oz_];grind
theorem iI_ {p:Y_->Bool} (O:∀(s:Y_)(H:Hp)(Q:Post),Q (gB (p s)) H->E f [gS s] H Q)
 (h:Ss H a n xs) (D:∀b H',H<+:H'->(b=true↔∀s∈xs,p s=true)->Q (gB b) H'):el_ E [nL a n 1,.g (.fn f [])] H Q:=by
 refine⟨1,?_⟩;have F:=b9_ H (.row true KO_ [.fn f []]);refine⟨1,?_⟩;have⟨k,N⟩:=rD_ (E:=cS_ [(IH_,c5_ E)]) (g:=IH_) (l:=H.length)
  (λs Q D=>l1_ O (by simp[gt]) D) (Q:=λr J=>rG r λC=>dI .i64 C λI=>rG (gB (leI 0 I)) λC=>dB C λb3=>Q (gB (!b3)) J) (h.mono F)
  (fun i G=>by
   rw[aO_,aj_,aO_,ao_];refine D _ _ F ?_;simp only[ks_,Bool.not_eq_true',decide_eq_false_iff_not];rw[G];constructor
   .intro q s A;cases e:p s with
    |true=>rfl
    |false=>exact (q ⟨s,A,g_⟩).elim
   .rintro q ⟨s,A,e⟩;rw[q s A]at e;cases e) _ 0 rfl (kP _) (λi G h=>by omega)
 exact⟨k+1,N
⟩
theorem pe_{p:Int->Bool}(A:∀(s:Int)(H:Hp)(Q:Post),Q (gB (p s)) H->E f [gI s] H Q)(h:gt H l 0=some (.fn f []))
 (r:Q (gB (!(p s))) H):d8_ E [gI s,yQ l] H Q:=by
 refine⟨1,?_⟩;rw[q3_,ac_ h,IL_];exact A s H _ r
theorem xh_ {p:Int->Bool} {g l:Nat} (I:∀(s:Int)(Q:Post),Q (gB (p s)) H->E g [gI s,yQ l] H Q)
 (h:Is H a n xs) (V:∀i:Int,(0<=i↔∃s∈xs,p s=true)->Q (gI i) H):
 ∀m k:Nat,xs.length-k=m->k<=xs.length->(∀i,(hi:i<xs.length)->i<k->p xs[i]=false)->∃f,a0_.l2 E f a n g [(l,0)] (nI n) (k:Int) H Q:=by
 intro m;have Y:=h.len;have F:=h.lim;induction m with
 |zero=>
  refine λk J D G=>⟨1,?_⟩;rw[a0_.l2_eq,show ltI k (nI n)=false by simp;omega,gA_];refine V _ ⟨λq=>by omega,fun⟨s,C,W⟩=>?_⟩;obtain⟨i,hi,rfl⟩:=kK C;grind
 | succ m U=>
  intro k J D G;have r:k<xs.length:=by omega
  have A:ltI k (nI n)=true:=by simp;omega
  cases C:p xs[k] with
  | false=>
   have⟨f,O⟩:=U (k+1) o_ o_ (λi hi N=>by
    by_cases e:i=k
    .grind
    .exact G i hi o_)
   refine⟨f+1,?_⟩;rw[a0_.l2_eq,az_ A,af_,h.rd k rfl r];refine I _ _ ?_;rw[aO_,ao_,C,gA_,an_ o_];exact O
  |true=>
   refine⟨1,?_⟩;rw[a0_.l2_eq,az_ A,af_,h.rd k rfl r];refine I _ _ ?_;rw[aO_,ao_,C,oz_];grind
theorem q7_ {p:Int->Bool} (O:∀(s:Int)(H:Hp)(Q:Post),Q (gB (p s)) H->E f [gI s] H Q)
 (h:Is H a n xs) (D:∀b H',H<+:H'->(b=true↔∀s∈xs,p s=true)->Q (gB b) H'):gV_ E [nL a n 1,.g (.fn f [])] H Q:=by
 refine⟨1,?_⟩;have F:=b9_ H (.row true KB_ [.fn f []]);refine⟨1,?_⟩;have⟨k,N⟩:=xh_ (E:=cS_ [(IT_,d8_ E)]) (g:=IT_) (l:=H.length)
  (λs Q D=>pe_ O (by simp[gt]) D) (Q:=λr J=>rG r λC=>dI .i64 C λI=>rG (gB (leI 0 I)) λC=>dB C λb3=>Q (gB (!b3)) J) (h.mono F)
  (fun i G=>by
   rw[aO_,aj_,aO_,ao_];refine D _ _ F ?_;simp only[ks_,Bool.not_eq_true',decide_eq_false_iff_not];rw[G];constructor
   .intro q s A;cases e:p s with
    |true=>rfl
    |false=>exact (q ⟨s,A,g_⟩).elim
   .rintro q ⟨s,A,e⟩;rw[q s A]at e;cases e) _ 0 rfl (kP _) (λi G h=>by omega)
 exact⟨k+1,N⟩
def IV_(zs:List Int):Prop:=∀i,(h:i+1<zs.length)->zs[i]'o_≠zs[i+1]
theorem Is.row{C:List Int}(h:H[l]?=some (.row own t (C.map (GV.int .i64))))(D:o+n=C.length)(r:n*8<=140737488351232):Is H (some (l,o)) n (C.drop o):=
 ⟨by simp only[cells?,h];rw[if_pos g_];rw[<-map_drop,<-map_take,k7 g_],g_,r⟩
theorem CY_ {H0:Hp} {l n o n2:Nat} {Q:Post} (hb:H0.length<=l) (hlim:n*8<=140737488351232) (hon:o+n2=n) (hQ:∀(j:Nat) H',H0<+:H'->j<n->Q (nL (some (l,0)) j 1) H'):
 ∀(m' m j:Nat)(H:Hp)(ws:List Int),n2-m=m'->1<=m->m<=n2->1<=j->j+1<=o+m->H0<+:H->H[l]?=some (.row true tI (ws.map (GV.int .i64)))->ws.length=n->
  ∃f,au_.l9 f (some (l,0)) n (j:Int) (some (l,o)) n2 (m:Int) H Q:=by
 intro m';induction m' with
 | zero=>
  intro m j H ws hm h1 h2 hj hjo h0 hrow hw;refine⟨1,?_⟩;obtain⟨d,hd⟩:∃d,n-j=d+1:=⟨n-j-1,o_⟩;rw[au_.l9_eq,aA_ s_,af_];refine ab_ t_ (ab_ s_ ?_);simp only[CT_,Int.toNat_natCast,Nat.mul_one,w2_,kN,af_,hd];show (match H[l]? with
   |some (.row true t cs)=>j+(d+1)*1<=cs.length/\_
   |_=>False)
  rw[hrow];refine⟨s_,ab_ t_ (ab_ s_ ?_)⟩;exact hQ j _ (dL_ h0 hb _) o_
 | succ m' ih=>
  intro m j H ws hm h1 h2 hj hjo h0 hrow hw;have hI:=Is.row (o:=o) (n:=n2) hrow o_ o_;have hmn:m<(ws.drop o).length:=by simp;omega
  obtain⟨m1,rfl⟩:∃m1,m=m1+1:=⟨m-1,o_⟩;have hm1:m1<(ws.drop o).length:=by omega
  have hlt:ltI ((m1+1:Nat):Int) (nI n2)=true:=by simp;omega
  by_cases he:(ws.drop o)[m1+1]=(ws.drop o)[m1]
  .obtain⟨f,hf⟩:=ih (m1+1+1) j H ws o_ o_ o_ hj o_ h0 hrow hw;refine⟨f+1,?_⟩;rw[au_.l9_eq,az_ hlt,af_,hI.rd (m1+1) rfl hmn,af_,hI.rd m1 (ef_ o_) hm1,aA_ (by simpa using he),an_ o_];exact hf
  ·have hjn:j<(ws.map (GV.int .i64)).length:=by simp;omega
   obtain⟨f,hf⟩:=ih (m1+1+1) (j+1) (H.set l (.row true tI ((ws.set j (ws.drop o)[m1+1]).map (GV.int .i64)))) (ws.set j (ws.drop o)[m1+1]) o_ o_ o_ o_ o_ (dL_ h0 hb _)
    (by rw[kH];exact (kC.1 hrow).1) (by simpa using hw)
   refine⟨f+1,?_⟩;rw[au_.l9_eq,az_ hlt,af_,hI.rd (m1+1) rfl hmn,af_,hI.rd m1 (ef_ o_) hm1,az_ (by simpa using he),af_,hI.rd (m1+1) rfl hmn,af_];refine ab_ s_ ?_;simp only[CT_,Int.toNat_natCast,Nat.mul_one,ae_,kN];rw[rd_ hrow hjn,an_ o_,an_ o_];rw[List.map_set]at hf;exact hf
theorem zM_ {H0 H:Hp} {l:Nat} {zs:List Int} {Q:Post} (h0:H0<+:H) (hb:H0.length<=l) (hrow:H[l]?=some (.row true tI (zs.map (GV.int .i64)))) (hlim:zs.length*8<=140737488351232)
 (hQ:∀(a:Pl)(j:Nat) H',H0<+:H'->(j=zs.length↔IV_ zs)->Q (nL a j 1) H'):au_ [nL (some (l,0)) zs.length 1] H Q:=by
 have hI:=Is.row (o:=0) (n:=zs.length) hrow o_ hlim;rw[drop_zero]at hI;have loop:∀m k:Nat,zs.length-k=m->k+1<=zs.length->(∀i,(h:i+1<zs.length)->i<k->zs[i]'o_≠zs[i+1])->∃f,au_.l4 f (some (l,0)) zs.length ((k+1:Nat):Int) H Q:=by
  intro m;induction m with
  |zero=>intro k hm hk;omega
  | succ m ih=>
   intro k hm hk hne;by_cases hkn:k+1<zs.length
   ·have hlt:ltI ((k+1:Nat):Int) (nI zs.length)=true:=by simp;omega
    by_cases he:zs[k+1]=zs[k]'o_
    ·obtain⟨f,hf⟩:=CY_ (H0:=H0) (l:=l) (n:=zs.length) (o:=k+1) (n2:=zs.length-(k+1)) (Q:=Q) hb hlim o_ (λj H' h1 h2=>hQ _ j H' h1 ⟨λe=>by omega,λq=>(q k hkn he.symm).elim⟩)
      _ 1 (k+1) H zs rfl o_ o_ o_ o_ h0 hrow rfl
     refine⟨f+1,?_⟩;rw[au_.l4_eq,az_ hlt,af_,hI.rd (k+1) rfl hkn,af_,hI.rd k (ef_ o_) o_,az_ (by simpa using he),af_];refine ab_ s_ (ab_ s_ ?_);simp only[CT_,Int.toNat_natCast,Nat.mul_one,w2_,kN];exact hf
    ·obtain⟨f,hf⟩:=ih (k+1) o_ o_ (λi hi hik=>by
      by_cases e:i=k
      .subst e;exact λq=>he q.symm
      .exact hne i hi o_)
     refine⟨f+1,?_⟩;rw[au_.l4_eq,az_ hlt,af_,hI.rd (k+1) rfl hkn,af_,hI.rd k (ef_ o_) o_,aA_ (by simpa using he),an_ o_];exact hf
   .refine⟨1,?_⟩;rw[au_.l4_eq,aA_ s_];exact hQ _ _ _ h0 ⟨λ_ i hi=>hne i hi o_,λ_=>rfl⟩
 by_cases h2:zs.length<2
 .refine⟨1,?_⟩;rw[eV_,az_ s_];exact hQ _ _ _ h0 ⟨λ_ i hi=>by omega,λ_=>rfl⟩
 .obtain⟨f,hf⟩:=loop _ 0 rfl o_ (λi hi h=>by omega);refine⟨f+1,?_⟩;rw[eV_,aA_ s_];exact hf
theorem zp_ {zs:List Int}:IV_ (zs.mergeSort λx y=>decide (x<=y))↔zs.Nodup:=by
 have G:=mergeSort_perm zs λx y=>decide (x<=y);have A:(zs.mergeSort λx y=>decide (x<=y)).Pairwise λx y=>x<=y:=by
  have:=pairwise_mergeSort (le:=λ(x y:Int)=>decide (x<=y)) (λa b c D C=>by grind) (λa b=>by simp;omega) zs;grind
 rw[<-G.nodup_iff];generalize (zs.mergeSort λx y=>decide (x<=y))=ws at A;constructor
 ·intro h;rw[Nodup,kS];have key:∀d i,(r:i+d+1<ws.length)->ws[i]'o_<ws[i+d+1]:=by
   intro d;induction d with
   |zero=>
    intro i r;have D:=(kS.1 A) i (i+1) o_ o_ o_;have C:=h i o_;grind
   |succ d F=>
    intro i r;have D:=F i o_;have C:=(kS.1 A) (i+d+1) (i+(d+1)+1) o_ o_ o_;omega
  intro i j r J I;obtain⟨d,rfl⟩:∃d,j=i+d+1:=⟨j-i-1,o_⟩;grind
 .exact λh i r=>(kS.1 h) i (i+1) o_ o_ o_
theorem tq_ (h:Is H a n zs) (U:∀b H',H<+:H'->(b=true↔zs.Nodup)->Q (gB b) H'):gz_ E [nL a n 1] H Q:=by
 refine⟨1,?_⟩;rw[vR_];refine⟨1,⟨1,?_⟩⟩;rw[nR_];refine⟨1,?_⟩;rw[mQ_];have C:=h.len;have G:=h.lim;have J:=b9_ H (.row true tIs [.sl a n 1]);refine⟨H.length,tIs,[.sl a n 1],a,n,zs,rfl,t_,rfl,(h.mono J).cells,by unfold Lim;omega,λI=>?_,λI=>?_⟩
 .simp[aO_];refine .inl ⟨rfl,⟨1,?_⟩⟩;rw[eV_,az_ t_];simp_all
 ·simp only[aO_,ah_];refine .inr ⟨(H++[Obj.row true tIs [.sl a n 1]]).length,zs,rfl,I,by unfold Lim;omega,t_,?_⟩;have e:((H++[Obj.row true tIs [.sl a n 1]])++[Obj.row true tI (zs.map (GV.int .i64))]).set (H++[Obj.row true tIs [.sl a n 1]]).length (Obj.row true tI ((zs.mergeSort λx y=>decide (x<=y)).map (GV.int .i64)))=
   (H++[Obj.row true tIs [.sl a n 1]])++[Obj.row true tI ((zs.mergeSort λx y=>decide (x<=y)).map (GV.int .i64))]:=by
   grind
  simp only[fl_];rw[e];have A:(zs.mergeSort λx y=>decide (x<=y)).length=zs.length:=by simp
  have key:=zM_ (H:=(H++[Obj.row true tIs [.sl a n 1]])++[Obj.row true tI ((zs.mergeSort λx y=>decide (x<=y)).map (GV.int .i64))]) (l:=(H++[Obj.row true tIs [.sl a n 1]]).length)
   (zs:=zs.mergeSort λx y=>decide (x<=y)) (J.trans (prefix_append _ _)) t_ t_ o_
   (Q:=λW V=>rG W λD=>dL 1 D λO F=>Q (gB (eqI (nI F) (nI n))) V) (λZ j H' N Y=>by
    simp[aO_];refine U _ _ N ?_;rw[<-zp_,<-Y,A,<-C];simp;omega)
  rw[A]at key;exact key
structure Pg where
 used:Bool
 leaf:Bool
 keys:List Y_
 vals:List Y_
 kids:List Int
structure jn_(H:Hp)(u l:Bool)(a1:Pl)(n1:Nat)(a2:Pl)(n2:Nat)(a3:Pl)(n3:Nat)(p:Pg):Prop where
 used:p.used=u
 leaf:p.leaf=l
 keys:Ss H a1 n1 p.keys
 vals:Ss H a2 n2 p.vals
 kids:Is H a3 n3 p.kids
theorem jn_.mono{H H':Hp}(r:H<+:H')(h:jn_ H u l a1 n1 a2 n2 a3 n3 p):jn_ H' u l a1 n1 a2 n2 a3 n3 p:=
 ⟨h.used,h.leaf,h.keys.mono r,h.vals.mono r,h.kids.mono r⟩
structure iP_(p:Pg):Prop where
 used:p.used=true
 rising:it_ p.keys
 keys:∀k∈p.keys,1<=k.size/\k.size<=6
 leaf:p.leaf=true->p.vals.length=p.keys.length/\p.kids=[]/\∀v∈p.vals,v.size<=10
 inner:p.leaf=false->1<=p.keys.length/\p.vals=[]/\p.kids.length=p.keys.length+1/\(∀k∈p.kids,1<=k/\k<48)/\p.kids.Nodup
def e8_(p:Pg):Prop:=p.keys.length<=4/\iP_ p
section
variable{H:Hp}{Q:Post}{u l:Bool}{a1:Pl}{n1:Nat}{a2:Pl}{n2:Nat}{a3:Pl}{n3:Nat}{p:Pg}
theorem nU_ (h:jn_ H u l a1 n1 a2 n2 a3 n3 p) (hQ:∀b H',H<+:H'->(b=true↔iP_ p)->Q (gB b) H'):
 hx_ [.agg [.bool u,.bool l,.sl a1 n1 1,.sl a2 n2 1,.sl a3 n3 1]] H Q:=by
 obtain⟨hu,hl,hk,hv,hi⟩:=h;have n1e:=hk.len;have n2e:=hv.len;have n3e:=hi.len;have l1:=hk.lim;have l3:=hi.lim;have EK:∀(s:Y_)(H:Hp)(Q:Post),Q (gB (decide (1<=s.size)&&decide (s.size<=6))) H->cS_ [(H2_,dr_),(Ia_,cp_),(HY_,dO_)] H2_ [gS s] H Q:=
  λs H Q q=>by rw[ow_];exact pw_ q
 have EV:∀(s:Y_)(H:Hp)(Q:Post),Q (gB (decide (s.size<=10))) H->cS_ [(H2_,dr_),(Ia_,cp_),(HY_,dO_)] Ia_ [gS s] H Q:=
  λs H Q q=>by rw[pV_ d_,ow_];exact mk_ q
 have EI:∀(s:Int)(H:Hp)(Q:Post),Q (gB (decide (1<=s)&&decide (s<48))) H->cS_ [(H2_,dr_),(Ia_,cp_),(HY_,dO_)] HY_ [gI s] H Q:=
  λs H Q q=>by rw[pV_ d_,pV_ d_,ow_];exact x1_ q
 refine⟨1,?_⟩;rw[zg_];refine aa_ (λe=>hQ _ _ (k8 _) ⟨λq=>(by cases q),λq=>?_⟩) λe=>?_
 .rw[<-hu,q.used]at e;cases e
 refine tg_ hk λb hb=>?_;simp only[aO_,ao_];refine aa_ (λe1=>hQ _ _ (k8 _) ⟨λq=>(by cases q),λq=>?_⟩) λe1=>?_
 .rw[hb.2 q.rising]at e1;cases e1
 refine iI_ EK hk λb2 H2 p2 hb2=>?_;simp only[aO_,ao_];have hkeys:(∀k∈p.keys,1<=k.size/\k.size<=6)↔∀s∈p.keys,(decide (1<=s.size)&&decide (s.size<=6))=true:=by simp
 refine aa_ (λe2=>hQ _ _ p2 ⟨λq=>(by cases q),λq=>?_⟩) λe2=>?_
 .rw[hb2.2 (hkeys.1 q.keys)]at e2;cases e2
 have hR:it_ p.keys:=hb.1 (by cases b<;>simp_all);have hK:=hkeys.2 (hb2.1 (by cases b2<;>simp_all));have hU:p.used=true:=by rw[hu];cases u<;>simp_all
 refine aa_ (λe3=>?_) λe3=>?_
 .have hL:p.leaf=true:=by rw[hl];exact e3
  refine aa_ (λe4=>?_) λe4=>hQ _ _ p2 ⟨λq=>(by cases q),λq=>?_⟩
  rotate_left
  .have:=(q.leaf hL).1;simp at e4;omega
  refine aa_ (λe5=>?_) λe5=>hQ _ _ p2 ⟨λq=>(by cases q),λq=>?_⟩
  rotate_left
  .have:=(q.leaf hL).2.1;simp[this]at n3e;simp at e5;omega
  refine iI_ EV (hv.mono p2) λb3 H3 p3 hb3=>?_;simp only[aO_,ao_];refine hQ _ _ (p2.trans p3) (hb3.trans ⟨λq=>⟨hU,hR,hK,λ_=>⟨?_,?_,by simpa using q⟩,λq=>(by rw[hL]at q;cases q)⟩,λq=>by simpa using (q.leaf hL).2.2⟩)
  .simp at e4;omega
  .simp at e5;exact eq_nil_of_length_eq_zero o_
 .have hL:p.leaf=false:=by rw[hl];exact e3
  refine aa_ (λe4=>?_) λe4=>hQ _ _ p2 ⟨λq=>(by cases q),λq=>?_⟩
  rotate_left
  .have:=(q.inner hL).1;simp at e4;omega
  refine aa_ (λe5=>?_) λe5=>hQ _ _ p2 ⟨λq=>(by cases q),λq=>?_⟩
  rotate_left
  .have:=(q.inner hL).2.1;simp[this]at n2e;simp at e5;omega
  refine aa_ (λe6=>?_) λe6=>hQ _ _ p2 ⟨λq=>(by cases q),λq=>?_⟩
  rotate_left
  .have:=(q.inner hL).2.2.1;simp only[i9_]at e6;rw[an_ o_]at e6;simp at e6;omega
  simp only[i9_]at e6;rw[an_ o_]at e6;refine q7_ EI (hi.mono p2) λb3 H3 p3 hb3=>?_;simp only[aO_,ao_];refine aa_ (λe7=>?_) λe7=>hQ _ _ (p2.trans p3) ⟨λq=>(by cases q),λq=>?_⟩
  rotate_left
  .rw[hb3.2 (by simpa using (q.inner hL).2.2.2.1)]at e7;cases e7
  refine tq_ (hi.mono (p2.trans p3)) λb4 H4 p4 hb4=>?_;simp only[aO_,ao_];refine hQ _ _ ((p2.trans p3).trans p4) (hb4.trans ⟨λq=>⟨hU,hR,hK,λq=>(by rw[hL]at q;cases q),λ_=>⟨?_,?_,?_,by simpa using hb3.1 e7,q⟩⟩,λq=>(q.inner hL).2.2.2.2⟩)
  .simp at e4;omega
  .simp at e5;exact eq_nil_of_length_eq_zero o_
  .simp at e6;omega
theorem iy_(h:jn_ H u l a1 n1 a2 n2 a3 n3 p)(r:∀b H',H<+:H'->(b=true↔e8_ p)->Q (gB b) H'):
 hd_ [.agg [.bool u,.bool l,.sl a1 n1 1,.sl a2 n2 1,.sl a3 n3 1]] H Q:=by
 have D:=h.keys.len;refine⟨1,aa_ (λe=>?_) λe=>r _ _ (k8 _) ⟨λq=>g_,λq=>?_⟩⟩
 .refine nU_ h λb H' A C=>?_;simp at e;exact r _ _ A (C.trans ⟨λq=>⟨o_,q⟩,λq=>q.2⟩)
 .have:=q.1;simp at e;omega
theorem gT_ {xs:List Y_} (h:Ss H a1 n1 xs) (hQ:∀b,(b=true↔(it_ xs/\∀k∈xs,1<=k.size/\k.size<=6))->Q (gB b) H):bU_ [nL a1 n1 1] H Q:=by
 have hn:=h.len;have hlim:=h.lim;have loop:∀m k:Nat,xs.length-k=m->k<=xs.length->(∀i,(hi:i<xs.length)->i<k->1<=xs[i].size/\xs[i].size<=6)->(∀i,(hi:i+1<xs.length)->i+1<k->dJ_ (xs[i]'o_) xs[i+1]=true)->
  ∃f,bU_.l2 f a1 n1 (k:Int) H Q:=by
  intro m;induction m with
  |zero=>
   intro k hm hle h1 h2;refine⟨1,?_⟩;rw[bU_.l2_eq,aA_ s_];exact hQ true ⟨λ_=>⟨λi hi=>h2 i hi o_,λs hs=>by obtain⟨i,hi,rfl⟩:=kK hs;exact h1 i hi o_⟩,λ_=>rfl⟩
  | succ m ih=>
   intro k hm hle h1 h2;have hkn:k<xs.length:=by omega
   have hlt:ltI (k:Int) (nI n1)=true:=by simp;omega
   by_cases c1:xs[k].size<1
   .refine⟨1,?_⟩;rw[bU_.l2_eq,az_ hlt,af_,h.rd k rfl hkn,az_ s_];exact hQ false ⟨λq=>(by cases q),λq=>by have:=(q.2 _ (kE hkn)).1;omega⟩
   by_cases c2:6<xs[k].size
   .refine⟨1,?_⟩;rw[bU_.l2_eq,az_ hlt,af_,h.rd k rfl hkn,aA_ s_,af_,h.rd k rfl hkn,az_ s_];exact hQ false ⟨λq=>(by cases q),λq=>by have:=(q.2 _ (kE hkn)).2;omega⟩
   have h1':∀i,(hi:i<xs.length)->i<k+1->1<=xs[i].size/\xs[i].size<=6:=λi hi hik=>by
    by_cases e:i=k
    .subst e;omega
    .exact h1 i hi o_
   cases k with
   |zero=>
    obtain⟨f,hf⟩:=ih 1 o_ o_ h1' (λi hi h=>by omega);refine⟨f+1,?_⟩;rw[bU_.l2_eq,az_ hlt,af_,h.rd 0 rfl hkn,aA_ s_,af_,h.rd 0 rfl hkn,aA_ s_,aA_ t_,an_ o_];exact hf
   | succ k=>
    cases hs:dJ_ (xs[k]'o_) xs[k+1] with
    | true=>
     obtain⟨f,hf⟩:=ih (k+1+1) o_ o_ h1' (λi hi hik=>by
      by_cases e:i=k
      .subst e;exact hs
      .exact h2 i hi o_)
     refine⟨f+1,?_⟩;rw[bU_.l2_eq,az_ hlt,af_,h.rd (k+1) rfl hkn,aA_ s_,af_,h.rd (k+1) rfl hkn,aA_ s_,az_ (by simp<;>omega),af_,h.rd (k+1) rfl hkn,af_,
      h.rd k (ef_ o_) o_,aA_ (by rw[yx_]at hs;simpa using hs),an_ o_]
     exact hf
    | false=>
     refine⟨1,?_⟩;rw[bU_.l2_eq,az_ hlt,af_,h.rd (k+1) rfl hkn,aA_ s_,af_,h.rd (k+1) rfl hkn,aA_ s_,az_ (by simp<;>omega),af_,h.rd (k+1) rfl hkn,af_,
      h.rd k (ef_ o_) o_,az_ (by rw[yx_]at hs;rw[ox_];rw[Bool.not_eq_false']at hs;exact hs)]
     exact hQ false ⟨λq=>(by cases q),λq=>by rw[q.1 k hkn]at hs;cases hs⟩
 obtain⟨f,hf⟩:=loop _ 0 rfl (kP _) (λi hi h=>by omega) (λi hi h=>by omega);exact⟨f+1,by rw[wA_];exact hf⟩
theorem pK_ {most:Nat} (hmost:most<=1000) (h:jn_ H u l a1 n1 a2 n2 a3 n3 p) (hQ:∀b,(b=true↔(p.keys.length<=most/\iP_ p))->Q (gB b) H):
 aI_ [.agg [.bool u,.bool l,.sl a1 n1 1,.sl a2 n2 1,.sl a3 n3 1],gI most] H Q:=by
 obtain⟨hu,hl,hk,hv,hi⟩:=h;have n1e:=hk.len;have n2e:=hv.len;have n3e:=hi.len;have l1:=hk.lim;have l2:=hv.lim;have l3:=hi.lim;have leafs:p.leaf=true->(∀b,(b=true↔(p.vals.length=p.keys.length/\p.kids=[]/\∀v∈p.vals,v.size<=10))->Q (gB b) H)->∀m k:Nat,p.vals.length-k=m->k<=p.vals.length->(∀i,(hi:i<p.vals.length)->i<k->(p.vals[i]).size<=10)->
  ∃f,aI_.l5 f u l a1 n1 a2 n2 a3 n3 (k:Int) H Q:=by
  intro hL hQ' m;induction m with
  |zero=>
   intro k hm hle h1;refine⟨1,?_⟩;rw[aI_.l5_eq,aA_ s_];have hall:∀v∈p.vals,v.size<=10:=λs hs=>by obtain⟨i,hi,rfl⟩:=kK hs;exact h1 i hi o_
   refine aa_ (λe=>hQ' _ ?_) λe=>hQ' _ ⟨λq=>(by cases q),λq=>?_⟩
   .simp at e ⊢;refine⟨λq=>⟨o_,eq_nil_of_length_eq_zero o_,hall⟩,λq=>?_⟩;have:=q.2.1;rw[this]at n3e;exact n3e
   .have:=q.1;simp at e;omega
  | succ m ih=>
   intro k hm hle h1;have hkn:k<p.vals.length:=by omega
   have hlt:ltI (k:Int) (nI n2)=true:=by simp;omega
   by_cases c1:10<(p.vals[k]).size
   .refine⟨1,?_⟩;rw[aI_.l5_eq,az_ hlt,af_,hv.rd k rfl hkn,az_ s_];exact hQ' false ⟨λq=>(by cases q),λq=>by have:=q.2.2 _ (kE hkn);omega⟩
   ·obtain⟨f,hf⟩:=ih (k+1) o_ o_ (λi hi hik=>by
     by_cases e:i=k
     .subst e;omega
     .exact h1 i hi o_)
    refine⟨f+1,?_⟩;rw[aI_.l5_eq,az_ hlt,af_,hv.rd k rfl hkn,aA_ s_,an_ o_];exact hf
 have inners:p.leaf=false->(∀b,(b=true↔(1<=p.keys.length/\p.vals=[]/\p.kids.length=p.keys.length+1/\(∀k∈p.kids,1<=k/\k<48)/\p.kids.Nodup))->Q (gB b) H)->∀m k:Nat,p.kids.length-k=m->k<=p.kids.length->
  (∀i,(hi:i<p.kids.length)->i<k->1<=p.kids[i]/\p.kids[i]<48)->(∀i j,(hj:j<p.kids.length)->(hij:i<j)->j<k->p.kids[i]'o_≠p.kids[j])->
  ∃f,aI_.l11 f u l a1 n1 a2 n2 a3 n3 (k:Int) H Q:=by
  intro hL hQ' m;induction m with
  | zero=>
   intro k hm hle h1 h2;refine⟨1,?_⟩;rw[aI_.l11_eq,aA_ s_];have hall:∀v∈p.kids,1<=v/\v<48:=λs hs=>by obtain⟨i,hi,rfl⟩:=kK hs;exact h1 i hi o_
   have hnd:p.kids.Nodup:=by
    rw[Nodup,kS];exact λi j _ hj hij=>h2 i j hj hij o_
   refine aa_ (λe=>?_) λe=>hQ' _ ⟨λq=>(by cases q),λq=>?_⟩
   rotate_left
   .have:=q.1;simp at e;omega
   refine aa_ (λe2=>hQ' _ ?_) λe2=>hQ' _ ⟨λq=>(by cases q),λq=>?_⟩
   rotate_left
   .have:=q.2.1;rw[this]at n2e;simp at e2 n2e;omega
   simp only[i9_];rw[an_ o_];simp at e e2 ⊢;exact⟨λq=>⟨o_,eq_nil_of_length_eq_zero o_,o_,hall,hnd⟩,λq=>by have:=q.2.2.1;omega⟩
  | succ m ih=>
   intro k hm hle h1 h2;have hkn:k<p.kids.length:=by omega
   have hlt:ltI (k:Int) (nI n3)=true:=by simp;omega
   by_cases c1:p.kids[k]<1
   .refine⟨1,?_⟩;rw[aI_.l11_eq,az_ hlt,af_,hi.rd k rfl hkn,az_ (by simpa using c1)];exact hQ' false ⟨λq=>(by cases q),λq=>by have:=q.2.2.2.1 _ (kE hkn);omega⟩
   by_cases c2:48<=p.kids[k]
   .refine⟨1,?_⟩;rw[aI_.l11_eq,az_ hlt,af_,hi.rd k rfl hkn,aA_ (by simpa using c1),af_,hi.rd k rfl hkn,az_ (by simpa using c2)];exact hQ' false ⟨λq=>(by cases q),λq=>by have:=q.2.2.2.1 _ (kE hkn);omega⟩
   have loop:∀m' j:Nat,k-j=m'->j<=k->(∀i,(hi:i<j)->(hi2:i<k)->p.kids[i]'o_≠p.kids[k])->∃f,aI_.l16 f u l a1 n1 a2 n2 a3 n3 (k:Int) (j:Int) H Q:=by
    intro m';induction m' with
    | zero=>
     intro j hj hjk h3;obtain⟨f,hf⟩:=ih (k+1) o_ o_
      (λi hi hik=>by
       by_cases e:i=k
       .subst e;omega
       .exact h1 i hi o_)
      (λi j' hj' hij hjk'=>by
       by_cases e:j'=k
       .subst e;exact h3 i o_ hij
       .exact h2 i j' hj' hij o_)
     refine⟨f+1,?_⟩;rw[aI_.l16_eq,aA_ s_,an_ o_];exact hf
    | succ m' ih'=>
     intro j hj hjk h3;have hjn:j<p.kids.length:=by omega
     by_cases e:p.kids[j]=p.kids[k]
     .refine⟨1,?_⟩;rw[aI_.l16_eq,az_ s_,af_,hi.rd j rfl hjn,af_,hi.rd k rfl hkn,az_ (by simpa using e)];refine hQ' false ⟨λq=>(by cases q),λq=>?_⟩;exact ((kS.1 q.2.2.2.2) j k hjn hkn o_ e).elim
     ·obtain⟨f,hf⟩:=ih' (j+1) o_ o_ (λi hi hi2=>by
       by_cases e':i=j
       .subst e';exact e
       .exact h3 i o_ hi2)
      refine⟨f+1,?_⟩;rw[aI_.l16_eq,az_ s_,af_,hi.rd j rfl hjn,af_,hi.rd k rfl hkn,aA_ (by simpa using e),an_ o_];exact hf
   obtain⟨f,hf⟩:=loop _ 0 rfl (kP _) (λi hi=>by omega);refine⟨f+1,?_⟩;rw[aI_.l11_eq,az_ hlt,af_,hi.rd k rfl hkn,aA_ (by simpa using c1),af_,hi.rd k rfl hkn,aA_ (by simpa using c2)];exact hf
 by_cases cu:u=true
 rotate_left
 .refine⟨1,?_⟩;rw[fA_,az_ (by cases u<;>simp_all)];exact hQ _ ⟨λq=>(by cases q),λq=>by have:=q.2.used;rw[hu]at this;exact (cu this).elim⟩
 by_cases cr:it_ p.keys/\∀k∈p.keys,1<=k.size/\k.size<=6
 rotate_left
 .refine⟨1,?_⟩;rw[fA_,aA_ (by rw[cu];rfl)];refine gT_ hk λb hb=>?_;simp only[aO_,ao_];rw[az_ (by cases b with|false=>rfl|true=>exact (cr (hb.1 rfl)).elim)];exact hQ _ ⟨λq=>(by cases q),λq=>(cr ⟨q.2.rising,q.2.keys⟩).elim⟩
 by_cases cm:n1<=most
 rotate_left
 .refine⟨1,?_⟩;rw[fA_,aA_ (by rw[cu];rfl)];refine gT_ hk λb hb=>?_;simp only[aO_,ao_];rw[aA_ (by rw[hb.2 cr];rfl),az_ s_];exact hQ _ ⟨λq=>(by cases q),λq=>by have:=q.1;omega⟩
 cases hL:p.leaf with
 |true=>
  obtain⟨f,hf⟩:=leafs hL (λb hb=>hQ b (hb.trans ⟨λq=>⟨o_,by rw[hu];exact cu,cr.1,cr.2,λ_=>q,λe=>(by rw[hL]at e;cases e)⟩,λq=>q.2.leaf hL⟩)) _ 0 rfl (kP _) (λi hi h=>by omega);refine⟨f+1,?_⟩;rw[fA_,aA_ (by rw[cu];rfl)];refine gT_ hk λb hb=>?_;simp only[aO_,ao_];rw[aA_ (by rw[hb.2 cr];rfl),aA_ s_,az_ (by rw[<-hl];exact hL)];exact hf
 |false=>
  obtain⟨f,hf⟩:=inners hL (λb hb=>hQ b (hb.trans ⟨λq=>⟨o_,by rw[hu];exact cu,cr.1,cr.2,λe=>(by rw[hL]at e;cases e),λ_=>q⟩,λq=>q.2.inner hL⟩)) _ 0 rfl (kP _) (λi hi h=>by omega) (λi j hj hij h=>by omega);refine⟨f+1,?_⟩;rw[fA_,aA_ (by rw[cu];rfl)];refine gT_ hk λb hb=>?_;simp only[aO_,ao_];rw[aA_ (by rw[hb.2 cr];rfl),aA_ s_,aA_ (by rw[<-hl];exact hL)];exact hf
theorem rO_(h:jn_ H u l a1 n1 a2 n2 a3 n3 p)(A:∀b,(b=true↔e8_ p)->Q (gB b) H):
 g0_ [.agg [.bool u,.bool l,.sl a1 n1 1,.sl a2 n2 1,.sl a3 n3 1]] H Q:=⟨1,pK_ (most:=4) o_ h λb C=>A b C⟩
end
theorem lp_{α:Type}{l:List α}{x:α}(h:l[i]?=some x):l.set i x=l:=by
 apply ext_getElem?;grind
def Dj(a b:Pl):Prop:=∀l,a=some (l,0)->b≠some (l,0)
theorem Dj.symm(h:Dj a b):Dj b a:=λl r A=>h l A r
theorem Own.lt'(h:Own H b t a n cs)(e:a=some (l,0)):l<H.length:=by subst e;exact h.lt
theorem Own.after(h:Own H b t a n cs)(A:Dj a0 a)(r:Ex H0 a0 H H'):Own H' b t a n cs:=
 h.keep λl e=>r.row l (h.lt' e) λC=>A l C e
theorem Dj.fresh{a r:Pl}(h:Own H b t a n cs)(D:∀l o,r=some (l,o)->H.length<=l):Dj r a:=λl C A=>by
 have:=D l 0 C;have:=h.lt' A;omega
theorem Own.set(h:Own H b t a n cs)(r:a≠some (l,0))(x:Obj):Own (H.set l x) b t a n cs:=
 h.keep λA e=>by grind
structure ez_(H:Hp)(b:Nat)(u l:Bool)(a1:Pl)(n1:Nat)(a2:Pl)(n2:Nat)(a3:Pl)(n3:Nat)(p:Pg):Prop where
 used:p.used=u
 leaf:p.leaf=l
 keys:Own H b tS a1 n1 (p.keys.map GV.str)
 vals:Own H b tS a2 n2 (p.vals.map GV.str)
 kids:Own H b tI a3 n3 (p.kids.map (GV.int .i64))
 d12:Dj a1 a2
 d13:Dj a1 a3
 d23:Dj a2 a3
 small:n1<=1000/\n2<=1000/\n3<=1000
theorem ez_.at(h:ez_ H b u l a1 n1 a2 n2 a3 n3 p):jn_ H u l a1 n1 a2 n2 a3 n3 p:=by
 have⟨D,F,A,C,r,_,_,_,s⟩:=h;refine⟨D,F,⟨A.cells,?_,o_⟩,⟨C.cells,?_,o_⟩,⟨r.cells,?_,o_⟩⟩
 .have:=A.len;simpa using this.symm
 .have:=C.len;simpa using this.symm
 .have:=r.len;simpa using this.symm
theorem Own.mono{H H':Hp}(r:H<+:H')(h:Own H b t a n cs):Own H' b t a n cs:=h.keep λl e=>a9_ r (h.lt' e)
theorem ez_.mono{H H':Hp}(r:H<+:H')(h:ez_ H b u l a1 n1 a2 n2 a3 n3 p):ez_ H' b u l a1 n1 a2 n2 a3 n3 p:=
 ⟨h.used,h.leaf,h.keys.mono r,h.vals.mono r,h.kids.mono r,h.d12,h.d13,h.d23,h.small⟩
def noPg:Pg:=⟨false,false,[],[],[]⟩
theorem Gc_(H:Hp)(b:Nat):ez_ H b false false none 0 none 0 none 0 noPg:=
 ⟨rfl,rfl,.inl ⟨rfl,rfl,rfl⟩,.inl ⟨rfl,rfl,rfl⟩,.inl ⟨rfl,rfl,rfl⟩,λ_ e=>t_,λ_ e=>t_,λ_ e=>t_,o_⟩
theorem DN_(H:Hp):jn_ H false false none 0 none 0 none 0 noPg:=(Gc_ H 0).at
theorem eA_(h:Q (gI n) H):fJ_ [gI n] H Q:=⟨1,h⟩
theorem xy_{α:Type}{xs ys:List α}(h:xs.length=ys.length)(C:∀i,(r:i<xs.length)->(A:i<ys.length)->xs[i]=ys[i]):xs=ys:=ext_getElem h λi r A=>C i r A
section
variable{H:Hp}{Q:Post}{a1 a2:Pl}{n1 n2:Nat}
theorem ji_ {xs ys:List Y_} (h1:Ss H a1 n1 xs) (h2:Ss H a2 n2 ys) (hQ:∀b,(b=true↔xs=ys)->Q (gB b) H):bO_ [nL a1 n1 1,nL a2 n2 1] H Q:=by
 have e1:=h1.len;have e2:=h2.len;have l1:=h1.lim;by_cases hl:xs.length=ys.length
 ·have loop:∀f k:Nat,xs.length-k<f->k<=xs.length->(∀i,(h1:i<xs.length)->(h2:i<ys.length)->i<k->xs[i]=ys[i])->bO_.l4 f a1 n1 a2 n2 (k:Int) H Q:=by
   intro f;induction f with
   |zero=>intro k hf;omega
   | succ f ih=>
    intro k hf hk he;rw[bO_.l4_eq];by_cases hkn:k<xs.length
    ·rw[az_ s_,af_,h1.rd k rfl hkn,af_];have hc:(ltI (k:Int) (nI n1))=(ltI (k:Int) (nI n2)):=by rw[e1,e2,hl]
     rw[h2.rd k rfl o_];by_cases hs:xs[k]=ys[k]
     ·rw[aA_ (by simpa using hs),an_ o_];exact ih (k+1) o_ o_ λi q1 q2 hik=>by
       by_cases e:i=k
       .subst e;exact hs
       .exact he i q1 q2 o_
     .rw[az_ (by simpa using hs)];exact hQ _ ⟨λq=>(by cases q),λq=>(hs (by simp[q])).elim⟩
    .rw[aA_ s_];exact hQ _ ⟨λ_=>xy_ hl λi q1 q2=>he i q1 q2 o_,λ_=>rfl⟩
  refine⟨xs.length+2,?_⟩;rw[kH_,aA_ s_];exact loop _ 0 o_ (kP _) (λi _ _ h=>by omega)
 .refine⟨1,?_⟩;rw[kH_,az_ s_];exact hQ _ ⟨λq=>(by cases q),λq=>(hl (by rw[q])).elim⟩
theorem qf_ {xs ys:List Int} (h1:Is H a1 n1 xs) (h2:Is H a2 n2 ys) (hQ:∀b,(b=true↔xs=ys)->Q (gB b) H):cf_ [nL a1 n1 1,nL a2 n2 1] H Q:=by
 have e1:=h1.len;have e2:=h2.len;have l1:=h1.lim;by_cases hl:xs.length=ys.length
 ·have loop:∀f k:Nat,xs.length-k<f->k<=xs.length->(∀i,(h1:i<xs.length)->(h2:i<ys.length)->i<k->xs[i]=ys[i])->cf_.l4 f a1 n1 a2 n2 (k:Int) H Q:=by
   intro f;induction f with
   |zero=>intro k hf;omega
   | succ f ih=>
    intro k hf hk he;rw[cf_.l4_eq];by_cases hkn:k<xs.length
    ·rw[az_ s_,af_,h1.rd k rfl hkn,af_];rw[h2.rd k rfl o_];by_cases hs:xs[k]=ys[k]
     ·rw[aA_ (by simpa using hs),an_ o_];exact ih (k+1) o_ o_ λi q1 q2 hik=>by
       by_cases e:i=k
       .subst e;exact hs
       .exact he i q1 q2 o_
     .rw[az_ (by simpa using hs)];exact hQ _ ⟨λq=>(by cases q),λq=>(hs (by simp[q])).elim⟩
    .rw[aA_ s_];exact hQ _ ⟨λ_=>xy_ hl λi q1 q2=>he i q1 q2 o_,λ_=>rfl⟩
  refine⟨xs.length+2,?_⟩;rw[lA_,aA_ s_];exact loop _ 0 o_ (kP _) (λi _ _ h=>by omega)
 .refine⟨1,?_⟩;rw[lA_,az_ s_];exact hQ _ ⟨λq=>(by cases q),λq=>(hl (by rw[q])).elim⟩
end
section
variable{H:Hp}{Q:Post}{u l:Bool}{a1:Pl}{n1:Nat}{a2:Pl}{n2:Nat}{a3:Pl}{n3:Nat}{p:Pg}{u' l':Bool}{a1':Pl}{n1':Nat}{a2':Pl}{n2':Nat}{a3':Pl}{n3':Nat}{q:Pg}
theorem qo_(r:jn_ H u l a1 n1 a2 n2 a3 n3 p)(A:jn_ H u' l' a1' n1' a2' n2' a3' n3' q)(C:∀b,(b=true↔p=q)->Q (gB b) H):
 fq_ [.agg [.bool u,.bool l,.sl a1 n1 1,.sl a2 n2 1,.sl a3 n3 1],.agg [.bool u',.bool l',.sl a1' n1' 1,.sl a2' n2' 1,.sl a3' n3' 1]] H Q:=by
 refine⟨1,?_⟩;rw[s4_];refine aa_ (λG=>?_) λG=>C _ ⟨λq=>g_,λe=>?_⟩
 rotate_left
 .rw[<-r.used,<-A.used,e]at G;simp at G
 refine aa_ (λD=>?_) λD=>C _ ⟨λq=>g_,λe=>?_⟩
 rotate_left
 .rw[<-r.leaf,<-A.leaf,e]at D;simp at D
 refine ji_ r.keys A.keys λW I=>aa_ (λO=>?_) λO=>C _ ⟨λq=>g_,λe=>?_⟩
 rotate_left
 .grind
 refine ji_ r.vals A.vals λY N=>aa_ (λJ=>?_) λJ=>C _ ⟨λq=>g_,λe=>?_⟩
 rotate_left
 .grind
 refine qf_ r.kids A.kids λb5 F=>C _ (F.trans ⟨λe=>?_,λe=>by rw[e]⟩);have q3:=r.used;have Z:=r.leaf;have V:=A.used;have U:=A.leaf;cases p;cases q;simp_all
end
theorem Own.wr{H0 H:Hp}(F:H0<+:H)(h:Own H H0.length t a n cs)(k:Nat){i:Int}(hi:i=k)(O:k<n)
 (I:∀H',Own H' H0.length t a n (cs.set k v)->Ex H0 a H H'->K H'):chk (leI 0 i&&ltI i (nI n)) (pS a λC D=>Am.wr H C (D+tN i*1) v K):=by
 subst hi;refine ab_ (by simp_all) ?_;rcases h with⟨_,rfl,_⟩|⟨l,rfl,A,r,N⟩
 .omega
 .simp[ae_];rw[rd_ r o_];refine I _ (.inr ⟨l,rfl,A,kH (kC.1 r).1,g_⟩) ⟨dL_ F A _,t_,λJ _ G=>?_⟩;grind
theorem Ex.trans(h:Ex H0 a H H1)(A:Ex H0 a H1 H2):Ex H0 a H H2:=
 ⟨A.pre,Nat.le_trans h.len A.len,λl C r=>(A.row l (Nat.lt_of_lt_of_le C h.len) r).trans (h.row l C r)⟩
theorem Ex.refl{H0 H:Hp}(h:H0<+:H):Ex H0 a H H:=⟨h,kO _,λ_ _ _=>rfl⟩
section
variable{H0 H:Hp}{u l:Bool}{a1:Pl}{n1:Nat}{a2:Pl}{n2:Nat}{a3:Pl}{n3:Nat}{p:Pg}
theorem ez_.setKey(h:ez_ H H0.length u l a1 n1 a2 n2 a3 n3 p)(D:H0<+:H)(k:Nat){i:Int}(hi:i=k)(r:k<n1)(s:Y_)
 (F:∀H',H0<+:H'->ez_ H' H0.length u l a1 n1 a2 n2 a3 n3 { p with keys:=p.keys.set k s }->K H'):chk (leI 0 i&&ltI i (nI n1)) (pS a1 λA C=>Am.wr H A (C+tN i*1) (.str s) K):=
 h.keys.wr D k hi r λH' o x=>F H' x.pre ⟨h.used,h.leaf,by simp_all,h.vals.after h.d12 x,h.kids.after h.d13 x,h.d12,h.d13,h.d23,h.small⟩
theorem ez_.setVal(h:ez_ H H0.length u l a1 n1 a2 n2 a3 n3 p)(D:H0<+:H)(k:Nat){i:Int}(hi:i=k)(r:k<n2)(s:Y_)
 (F:∀H',H0<+:H'->ez_ H' H0.length u l a1 n1 a2 n2 a3 n3 { p with vals:=p.vals.set k s }->K H'):chk (leI 0 i&&ltI i (nI n2)) (pS a2 λA C=>Am.wr H A (C+tN i*1) (.str s) K):=
 h.vals.wr D k hi r λH' o x=>F H' x.pre ⟨h.used,h.leaf,h.keys.after h.d12.symm x,by simp_all,h.kids.after h.d23 x,h.d12,h.d13,h.d23,h.small⟩
theorem ez_.addKeys(h:ez_ H H0.length u l a1 n1 a2 n2 a3 n3 p)(C:H0<+:H)(xs:List Y_)(D:cs=xs.map GV.str)(A:m=xs.length)(G:n1+m<=1000)
 (F:∀r H',H0<+:H'->ez_ H' H0.length u l r (n1+m) a2 n2 a3 n3 { p with keys:=p.keys++xs }->K r (n1+m) H'):ap H tS 1 16 a1 n1 cs m K:=by
 subst D;subst A;refine k2_ C h.keys t_ (by unfold Lim;omega) λr H' o x f=>F r H' x.pre ?_;have:=h.small;exact⟨h.used,h.leaf,g_,h.vals.after h.d12 x,h.kids.after h.d13 x,Dj.fresh h.vals f,Dj.fresh h.kids f,h.d23,o_⟩
theorem ez_.addVals(h:ez_ H H0.length u l a1 n1 a2 n2 a3 n3 p)(C:H0<+:H)(xs:List Y_)(D:cs=xs.map GV.str)(A:m=xs.length)(G:n2+m<=1000)
 (F:∀r H',H0<+:H'->ez_ H' H0.length u l a1 n1 r (n2+m) a3 n3 { p with vals:=p.vals++xs }->K r (n2+m) H'):ap H tS 1 16 a2 n2 cs m K:=by
 subst D;subst A;refine k2_ C h.vals t_ (by unfold Lim;omega) λr H' o x f=>F r H' x.pre ?_;have:=h.small;exact⟨h.used,h.leaf,h.keys.after h.d12.symm x,g_,h.kids.after h.d23 x,(Dj.fresh h.keys f).symm,h.d13,Dj.fresh h.kids f,o_⟩
theorem ez_.addKids(h:ez_ H H0.length u l a1 n1 a2 n2 a3 n3 p)(C:H0<+:H)(xs:List Int)(D:cs=xs.map (GV.int .i64))(A:m=xs.length)(G:n3+m<=1000)
 (F:∀r H',H0<+:H'->ez_ H' H0.length u l a1 n1 a2 n2 r (n3+m) { p with kids:=p.kids++xs }->K r (n3+m) H'):ap H tI 1 8 a3 n3 cs m K:=by
 subst D;subst A;refine k2_ C h.kids t_ (by unfold Lim;omega) λr H' o x f=>F r H' x.pre ?_;have:=h.small;exact⟨h.used,h.leaf,h.keys.after h.d13.symm x,h.vals.after h.d23.symm x,g_,h.d12,(Dj.fresh h.keys f).symm,(Dj.fresh h.vals f).symm,o_⟩
end
def k3_(H:Hp)(lo hi:Nat)(t:TypeId)(a:Pl)(n:Nat)(cs:List GV):Prop:=
 (a=none/\n=0/\cs=[])\/∃l o ds,a=some (l,o)/\lo<=l/\l<hi/\H[l]?=some (.row true t ds)/\o+n<=ds.length/\(ds.drop o).take n=cs
def Dr(a b:Pl):Prop:=∀l o o',a=some (l,o)->b≠some (l,o')
structure Ch(lo hi:Nat)(H H':Hp):Prop where
 len:H.length<=H'.length
 row:∀l,l<H.length-> ¬ (lo<=l/\l<hi)->H'[l]?=H[l]?
theorem Ch.trans(h:Ch lo hi H H1)(C:Ch lo hi H1 H2):Ch lo hi H H2:=
 ⟨Nat.le_trans h.len C.len,λl r A=>(C.row l (Nat.lt_of_lt_of_le r h.len) A).trans (h.row l r A)⟩
theorem Ch.refl(lo hi:Nat)(H:Hp):Ch lo hi H H:=⟨kO _,λ_ _ _=>rfl⟩
theorem Ch.of_pre{H H':Hp}(h:H<+:H'):Ch lo hi H H':=⟨h.length_le,λl r _=>a9_ h r⟩
theorem Ch.pre{H0 H H':Hp}(h:Ch lo hi H H')(r:H0<+:H)(A:H0.length<=lo):H0<+:H':=by
 rw[prefix_iff_eq_take];apply ext_getElem?;intro i;rw[getElem?_take];split
 .rename_i hi;rw[h.row i (Nat.lt_of_lt_of_le hi r.length_le) o_,a9_ r hi]
 .grind
section
variable{H H':Hp}{lo hi:Nat}{t:TypeId}{a:Pl}{n:Nat}{cs:List GV}
theorem k3_.keep(h:k3_ H lo hi t a n cs)(G:∀l o,a=some (l,o)->H'[l]?=H[l]?):k3_ H' lo hi t a n cs:=by
 rcases h with h|⟨l,o,C,rfl,A,F,I,D,r⟩
 .exact .inl h
 .exact .inr ⟨l,o,C,rfl,A,F,g_,D,r⟩
theorem k3_.lt(h:k3_ H lo hi t a n cs)(e:a=some (l,o)):l<H.length/\lo<=l/\l<hi:=by
 rcases h with⟨h,_⟩|⟨r,G,D,C,A,I,F,_⟩
 .grind
 .grind
theorem k3_.mono(h:k3_ H lo hi t a n cs)(r:H<+:H'):k3_ H' lo hi t a n cs:=h.keep λl o e=>a9_ r (h.lt e).1
theorem k3_.cells(h:k3_ H lo hi t a n cs):cells? H a n=some cs:=by
 rcases h with⟨rfl,rfl,rfl⟩|⟨l,o,F,rfl,D,G,C,A,r⟩
 .rfl
 .simp only[cells?,C];rw[if_pos A,r]
theorem k3_.len(h:k3_ H lo hi t a n cs):cs.length=n:=FI_ h.cells
theorem k3_.part(h:k3_ H lo hi t a n cs)(k m:Nat)(G:k+m<=n):k3_ H lo hi t (shf a k) m ((cs.drop k).take m):=by
 rcases h with⟨rfl,rfl,rfl⟩|⟨l,o,D,rfl,C,F,A,I,r⟩
 .exact .inl ⟨rfl,o_,t_⟩
 .refine .inr ⟨l,o+k,D,rfl,C,F,A,o_,?_⟩;rw[<-r,drop_take,take_take,drop_drop,Nat.min_eq_left o_]
theorem Dr.shf (h:Dr a b) (k m:Nat):Dr (shf a k) (shf b m):=by
 intro l o G r A;cases a with
 |none=>cases r
 | some p=>
  cases b with
  |none=>cases A
  |some q=>
   have⟨I,C⟩:=p;have⟨F,D⟩:=q;simp at r A;exact h l C D g_ g_
theorem k3_.wr (h:k3_ H lo hi t a n cs) (k:Nat) {i:Int} (A:i=k) (Y:k<n)
 (N:∀H',k3_ H' lo hi t a n (cs.set k v)->Ch lo hi H H'->(∀l,l<H.length->(∀o,a≠some (l,o))->H'[l]?=H[l]?)->K H'):chk (leI 0 i&&ltI i (nI n)) (pS a λO F=>Am.wr H O (F+tN i*1) v K):=by
 subst A;refine ab_ (by simp_all) ?_;rcases h with⟨_,rfl,_⟩|⟨l,o,V,rfl,D,G,C,W,U⟩
 .omega
 .simp[ae_];rw[rd_ C o_];have J:=(kC.1 C).1;refine N _ (.inr ⟨l,o,_,rfl,D,G,kH J,g_,?_⟩) ⟨t_,λI _ r=>?_⟩ (λI _ r=>?_)
  .rw[<-U,drop_set,if_neg o_,take_set,show o+k-o=k by omega]
  .grind
  .grind
end
structure PgM(H:Hp)(lo hi:Nat)(u l:Bool)(a1:Pl)(n1:Nat)(a2:Pl)(n2:Nat)(a3:Pl)(n3:Nat)(p:Pg):Prop where
 used:p.used=u
 leaf:p.leaf=l
 keys:k3_ H lo hi tS a1 n1 (p.keys.map GV.str)
 vals:k3_ H lo hi tS a2 n2 (p.vals.map GV.str)
 kids:k3_ H lo hi tI a3 n3 (p.kids.map (GV.int .i64))
 d12:Dr a1 a2
 d13:Dr a1 a3
 d23:Dr a2 a3
 small:n1<=1000/\n2<=1000/\n3<=1000
section
variable{H H':Hp}{lo hi:Nat}{u l:Bool}{a1:Pl}{n1:Nat}{a2:Pl}{n2:Nat}{a3:Pl}{n3:Nat}{p:Pg}
theorem PgM.at(h:PgM H lo hi u l a1 n1 a2 n2 a3 n3 p):jn_ H u l a1 n1 a2 n2 a3 n3 p:=by
 have⟨D,F,C,A,r,_,_,_,s⟩:=h;refine⟨D,F,⟨C.cells,?_,o_⟩,⟨A.cells,?_,o_⟩,⟨r.cells,?_,o_⟩⟩
 .have:=C.len;simpa using this.symm
 .have:=A.len;simpa using this.symm
 .have:=r.len;simpa using this.symm
theorem PgM.mono(h:PgM H lo hi u l a1 n1 a2 n2 a3 n3 p)(r:H<+:H'):PgM H' lo hi u l a1 n1 a2 n2 a3 n3 p:=
 ⟨h.used,h.leaf,h.keys.mono r,h.vals.mono r,h.kids.mono r,h.d12,h.d13,h.d23,h.small⟩
theorem Own.dr (h:Own H b t a n cs) (D:Own H b t' a' n' cs') (C:Dj a a'):Dr a a':=by
 intro l o G e A;rcases h with⟨q,_⟩|⟨m,q,_⟩
 .grind
 .rcases D with⟨r,_⟩|⟨F,r,_⟩
  .grind
  .rw[q]at e;rw[r]at A;cases e;cases A;exact C l q r
end
end Go.Am
namespace Go.Am
structure PC where
 u:Bool
 l:Bool
 a1:Pl
 n1:Nat
 a2:Pl
 n2:Nat
 a3:Pl
 n3:Nat
def PC.cells(c:PC):List GV:=[.bool c.u,.bool c.l,.sl c.a1 c.n1 1,.sl c.a2 c.n2 1,.sl c.a3 c.n3 1]
@[simp] theorem PC.cells_length (c:PC):c.cells.length=5:=rfl
def PC.at(H:Hp)(c:PC)(p:Pg):Prop:=jn_ H c.u c.l c.a1 c.n1 c.a2 c.n2 c.a3 c.n3 p
theorem PC.at.mono{H H':Hp}(r:H<+:H'){c:PC}(h:c.at H p):c.at H' p:=jn_.mono r h
def aY_(cs:List PC):List GV:=cs.flatMap PC.cells
theorem ct_(cs:List PC):(aY_ cs).length=cs.length*5:=by
 unfold aY_;induction cs with
 |nil=>rfl
 |cons c cs h=>simp[h];omega
theorem pu_(cs h:List PC):aY_ (cs++h)=aY_ cs++aY_ h:=by simp[aY_]
theorem jX_ (hi:i<cs.length) (r:j<5):(aY_ cs)[i*5+j]?=(cs[i].cells)[j]? :=by
 unfold aY_;induction cs generalizing i with
 |nil=>simp at hi
 | cons c cs h=>
  simp;cases i with
  |zero=>rw[kM (by simp_all)];simp
  |succ i=>
   rw[List.getElem?_append_right s_];have e:(i+1)*5+j-c.cells.length=i*5+j:=by simp;omega
   grind
structure Tr(H:Hp)(a:Pl)(n:Nat)(cs:List PC)(T:List Pg):Prop where
 cells:cells? H a (n*5)=some (aY_ cs)
 len:cs.length=n
 lenT:T.length=n
 all:∀i (h:i<cs.length) (h':i<T.length),(cs[i]).at H T[i]
theorem Tr.mono{H H':Hp}(r:H<+:H')(h:Tr H a n cs T):Tr H' a n cs T:=⟨lH_ r h.cells,h.len,h.lenT,λi C A=>(h.all i C A).mono r⟩
theorem Tr.get (h:Tr H a n cs T) (hi:i<n):∃l o c p,a=some (l,o)/\cs[i]?=some c/\T[i]?=some p/\c.at H p/\
 gt H l (o+i*5)=some (.bool c.u)/\gt H l (o+i*5+1)=some (.bool c.l)/\gt H l (o+i*5+2)=some (.sl c.a1 c.n1 1)/\gt H l (o+i*5+3)=some (.sl c.a2 c.n2 1)/\gt H l (o+i*5+4)=some (.sl c.a3 c.n3 1):=by
 have F:=h.len;have D:=h.lenT;have A:=h.cells;cases a with
 |none=>simp[cells?]at A;omega
 | some q=>
  have⟨l,o⟩:=q;have r:∀j,j<5->gt H l (o+i*5+j)=((cs[i]'o_).cells)[j]? :=by
   intro j C;have:=jG_ A (j:=i*5+j) o_;rw[<-Nat.add_assoc]at this;rw[this,jX_ o_ C]
  exact⟨l,o,cs[i]'o_,T[i]'o_,rfl,t_,t_,h.all i o_ o_,r 0 o_,r 1 o_,r 2 o_,r 3 o_,r 4 o_⟩
theorem cz_{c:PC}{K:Bool->Bool->Pl->Nat->Pl->Nat->Pl->Nat->Prop}(Y:gt H l j=some (.bool c.u))(C:gt H l (j+1)=some (.bool c.l))(r:gt H l (j+2)=some (.sl c.a1 c.n1 1))(h3:gt H l (j+3)=some (.sl c.a2 c.n2 1))(J:gt H l (j+4)=some (.sl c.a3 c.n3 1)):
 (rd H l j λv0=>dB v0 λA=>rd H l (j+1) λF=>dB F λN=>rd H l (j+1+1) λI=>dL 1 I λZ n2=>rd H l (j+1+1+1) λW=>dL 1 W λD O=>rd H l (j+1+1+1+1) λV=>dL 1 V λU G=>K A N Z n2 D O U G)=K c.u c.l c.a1 c.n1 c.a2 c.n2 c.a3 c.n3:=by
 rw[ac_ Y,ao_,ac_ C,ao_,ac_ r,ah_,ac_ h3,ah_,ac_ J,ah_]
end Go.Am
namespace Go.Am
open List
open Go.RowKit Go.ChangeShapes Go.WideShapes Go.Proofs
theorem Jw_(F:P.underlying t=some (.struct fs))(h:Value.okWide P W r b t v):∃A:Array Value,v= .agg A/\∀x∈A.toList,Zc W x:=by
 unfold Value.okWide at h;rw[F]at h;obtain⟨A,rfl,_,J,_,_,I⟩:=h;refine⟨A,rfl,λx D=>?_⟩;obtain⟨i,N,rfl⟩:=kK D;have⟨u,_,G⟩:=I i A[i] t_;exact Hk_ G
section
variable{Hh:Type}{enc:TypeId × Value->Hh}{W:World}{held:Bool}
theorem IE_ {fuel:Nat} {cs:List Value} {x:DataW Hh × List MemPlace} (h:DataW.trod enc Tryz.prog W 0 (λ_=>true) held fuel 100 cs=some x) (hz:∀v∈cs,Zc W v) (hw:(DataW.weights Tryz.prog 100 x.1).all (· <=reachBytes)=true)
 {φ:List LI} {H:Hp} (hr:cT_ φ H W) (hn:iX_ H):
 ∃φ' H' u l a1 n1 a2 n2 a3 n3 p,φ<+:φ'/\H<+:H'/\cT_ φ' H' W/\iX_ H'/\Is2 φ' [.bool u,.bool l,.sl a1 n1 1,.sl a2 n2 1,.sl a3 n3 1] cs/\jn_ H' u l a1 n1 a2 n2 a3 n3 p:=by
 obtain⟨xs,n,rfl,rfl,hlen,hxs,hf⟩:=DataW.trod_struct Tryz.underlying100 h;have h5:Tryz.prog.cellsOf 100=5:=by kernel_rfl
 have cB:Tryz.prog.cellsOf 4=1:=by kernel_rfl
 have c22:Tryz.prog.cellsOf 46=1:=by kernel_rfl
 have c23:Tryz.prog.cellsOf 47=1:=by kernel_rfl
 rw[h5]at hlen
 match cs,hlen with
 | [v0,v1,v2,v3,v4],_=>
  have f0:DataW.trod enc Tryz.prog W 0 (λ_=>true) held n 4 (([v0,v1,v2,v3,v4].drop 0).take (Tryz.prog.cellsOf 4))=xs[0]? :=hf 0 _ rfl;have f1:DataW.trod enc Tryz.prog W 0 (λ_=>true) held n 4 (([v0,v1,v2,v3,v4].drop 1).take (Tryz.prog.cellsOf 4))=xs[1]? :=hf 1 _ rfl;have f2:DataW.trod enc Tryz.prog W 0 (λ_=>true) held n 46 (([v0,v1,v2,v3,v4].drop 2).take (Tryz.prog.cellsOf 46))=xs[2]? :=hf 2 _ rfl;have f3:DataW.trod enc Tryz.prog W 0 (λ_=>true) held n 46 (([v0,v1,v2,v3,v4].drop 3).take (Tryz.prog.cellsOf 46))=xs[3]? :=hf 3 _ rfl;have f4:DataW.trod enc Tryz.prog W 0 (λ_=>true) held n 47 (([v0,v1,v2,v3,v4].drop 4).take (Tryz.prog.cellsOf 47))=xs[4]? :=hf 4 _ rfl;simp only[cB,c22,c23,drop_zero,drop_succ_cons,take_succ_cons,take_zero]at f0 f1 f2 f3 f4
  match xs,hxs with
  | [x0,x1,x2,x3,x4],_=>
   simp only[getElem?_cons_zero,getElem?_cons_succ]at f0 f1 f2 f3 f4;simp only[map_cons,map_nil,DataW.weights,Tryz.underlying100]at hw;obtain⟨u,e0,_⟩:=DataW.trod_bool Tryz.underlying4 f0;obtain⟨l,e1,_⟩:=DataW.trod_bool Tryz.underlying4 f1;simp only[List.cons.injEq,and_true]at e0 e1;subst e0;subst e1;obtain⟨φ1,H1,a1,n1,ks,w2,e2,p1,q1,r1,o1,i1,s1⟩:=ws_ Tryz.underlying46 Tryz.underlying9 (by kernel_rfl) (by kernel_rfl) f2 (λv hv=>hz v (by simp at hv;simp[hv])) (og_ hw (j:=2) rfl rfl) hr hn;obtain⟨φ2,H2,a2,n2,vs,w3,e3,p2,q2,r2,o2,i2,s2⟩:=ws_ Tryz.underlying46 Tryz.underlying9 (by kernel_rfl) (by kernel_rfl) f3 (λv hv=>hz v (by simp at hv;simp[hv])) (og_ hw (j:=3) rfl rfl) r1 o1;obtain⟨φ3,H3,a3,n3,is,w4,e4,p3,q3,r3,o3,i3,s3⟩:=Fd_ Tryz.underlying47 Tryz.underlying3 (by kernel_rfl) (by kernel_rfl) f4 (λv hv=>hz v (by simp at hv;simp[hv])) (og_ hw (j:=4) rfl rfl) r2 o2;simp only[List.cons.injEq,and_true]at e2 e3 e4;subst e2;subst e3;subst e4;exact⟨φ3,H3,u,l,a1,n1,a2,n2,a3,n3,⟨u,l,ks,vs,is⟩,p1.trans (p2.trans p3),q1.trans (q2.trans q3),r3,o3,
    .cons rfl (.cons rfl (.cons (GV.is.mono (p2.trans p3) i1) (.cons (GV.is.mono p3 i2) (.cons i3 .nil)))),⟨rfl,rfl,s1.mono (q2.trans q3),s2.mono q3,s3⟩⟩
theorem uj_:∀{D:List (DataW Hh)},(DataW.weightsAll P e D).all (· <=reachBytes)=true->∀{i:Nat}{d:DataW Hh},D[i]?=some d->(DataW.weights P e d).all (· <=reachBytes)=true
 |[],_,i,d,h=>by grind
 |d0::r,A,0,d,h=>by
  simp[DataW.weightsAll]at A;grind
 |d0::r,A,i+1,d,h=>by
  simp only[DataW.weightsAll,all_append,kR]at A;exact uj_ A.2 h
theorem Is2.get(h:Is2 φ cs vs){j:Nat}(r:cs[j]?=some v):∃x,vs[j]?=some x/\v.is φ x:=cu_.get h r
theorem C4_ {fuel:Nat} {cs:List Value} {x:DataW Hh × List MemPlace} (h:DataW.trod enc Tryz.prog W 0 (λ_=>true) held fuel 22 cs=some x) (hz:∀v∈cs,Zc W v) (hw:(DataW.weights Tryz.prog 22 x.1).all (· <=reachBytes)=true)
 {φ:List LI} {H:Hp} (hr:cT_ φ H W) (hn:iX_ H):
 ∃φ' H' a n ps T v,cs=[v]/\φ<+:φ'/\H<+:H'/\cT_ φ' H' W/\iX_ H'/\GV.is φ' (.sl a n 5) v/\Tr H' a n ps T/\n*80<=140737488351232:=by
 have h5:Tryz.prog.cellsOf 100=5:=by kernel_rfl
 rcases DataW.trod_slice Tryz.underlying22 h with⟨rfl,rfl⟩|⟨a,len,cap,elems,rest,n,rfl,rfl,rfl,_,hl,hcap,hel,hi,hrest,_⟩
 .exact⟨φ,H,none,0,[],[],_,rfl,k8 _,k8 _,hr,hn,⟨rfl,rfl⟩,⟨rfl,rfl,rfl,λi h1=>(by simp at h1)⟩,o_⟩
 rw[h5]at hi hrest;obtain⟨hrl,hrj⟩:=hrest rfl;simp only[DataW.weights,Tryz.underlying22]at hw;rw[all_cons,all_append,kR,kR]at hw;obtain⟨hw0,hw1,_⟩:=hw;have hpos:0<W.heap.size:=hz (.slice (some a) len cap) (mem_singleton.2 rfl) _ _ _ rfl;have hsp:0<cap->a.spot=none/\a.block<W.heap.size:=by
  intro h0;have hb:∃cs0,W.cells? 0 (a.add 0) 5=some cs0:=by
   rcases Nat.eq_zero_or_pos len with e|e
   .have:=hrj 0 o_;rw[e]at this;simp only[kN,Nat.zero_mul]at this;rw[kG o_]at this;cases hc:W.cells? 0 (a.add 0) 5 with
    |none=>rw[hc]at this;cases this
    |some c=>exact⟨c,rfl⟩
   .have:=hi 0 e;simp only[Nat.zero_mul]at this;rw[kG o_]at this;cases hc:W.cells? 0 (a.add 0) 5 with
    |none=>rw[hc]at this;cases this
    |some c=>exact⟨c,rfl⟩
  obtain⟨c0,hc0⟩:=hb;obtain⟨_,hlen,hget⟩:=World.cells?_some hc0;have:=hget 0 o_;rw[kG o_]at this;have:=z5_ this;simpa[Addr.add] using this
 have key:∀k,k<=len->∃(φ':List LI)(H':Hp)(ps:List PC)(T:List Pg),φ<+:φ'/\H<+:H'/\cT_ φ' H' W/\iX_ H'/\ps.length=k/\T.length=k/\(∀i (h:i<ps.length) (h':i<T.length),(ps[i]).at H' T[i])/\
  ∀j v,(aY_ ps)[j]?=some v->∃x,W.cell? (a.add j)=some x/\v.is φ' x:=by
  intro k;induction k with
  |zero=>intro _;exact⟨φ,H,[],[],k8 _,k8 _,hr,hn,rfl,rfl,λi h1=>(by simp at h1),λj v hj=>(by simp[aY_]at hj)⟩
  | succ k ih=>
   intro hk;obtain⟨φ1,H1,ps,T,e1,g1,r1,n1,l1,l2,at1,c1⟩:=ih o_;have hik:=hi k o_;have hel':k<elems.length:=by omega
   rw[kG hel']at hik;cases hc:W.cells? 0 (a.add (k*5)) 5 with
   |none=>rw[hc]at hik;cases hik
   | some ck=>
    rw[hc]at hik;obtain⟨_,hlen,hget⟩:=World.cells?_some hc;obtain⟨φ2,H2,u,l,a1,n1',a2,n2,a3,n3,p,e2,g2,r2,n2',is2,at2⟩:=IE_ (x:=elems[k]) hik (λv hv=>by intro _ _ _ _;exact hpos) (uj_ hw1 (i:=k) (by rw[getElem?_map,kG hel'];rfl)) r1 n1;obtain⟨hs,hb⟩:=hsp o_;refine⟨φ2,H2,ps++[⟨u,l,a1,n1',a2,n2,a3,n3⟩],T++[p],e1.trans e2,g1.trans g2,r2,n2',by simp[l1],by simp[l2],?_,?_⟩
    .intro i h1 h2;rw[getElem_append,getElem_append];by_cases e:i<k
     .rw[dif_pos o_,dif_pos o_];exact (at1 i o_ o_).mono g2
     .rw[dif_neg o_,dif_neg o_];simpa[PC.at] using at2
    ·intro j v hj;rw[pu_]at hj;rcases Nat.lt_or_ge j (k*5) with q|q
     .rw[kM (by rw[ct_];omega)]at hj;obtain⟨x,x1,x2⟩:=c1 j v hj;exact⟨x,x1,GV.is.mono e2 x2⟩
     .rw[getElem?_append_right (by rw[ct_];omega),ct_,l1]at hj;have hj5:j-k*5<5:=by have:=(kC.1 hj).1;simpa[aY_] using this
      obtain⟨x,hx,hvx⟩:=Is2.get is2 (j:=j-k*5) (v:=v) (by simpa[aY_,PC.cells] using hj);refine⟨x,?_,hvx⟩;have:=hget (j-k*5) hj5;rw[hx]at this;rw[<-this,nn_ hs,nn_ hs];rw[nn_ rfl];congr 2;show a.off+j=a.off+k*5+(j-k*5);omega
 obtain⟨φ1,H1,ps,T,e1,g1,r1,n1,l1,l2,at1,c1⟩:=key len (kO _);obtain⟨φ2,H2,p,e2,g2,r2,n2,i2,s2⟩:=w5_ (z:=5) r1 n1 hl hpos hsp (aY_ ps) (by rw[ct_,l1]) c1;refine⟨φ2,H2,p,len,ps,T,_,rfl,e1.trans e2,g1.trans g2,r2,n2,i2,⟨s2,l1,l2,λi h1 h2=>(at1 i h1 h2).mono g2⟩,?_⟩;have hb:Tryz.prog.bytesOf 100=80:=by kernel_rfl
 simp only[decide_eq_true_eq,k9,hb,hel]at hw0;unfold reachBytes at hw0;omega
theorem FL_ {fuel:Nat} {cs:List Value} {x:DataW Hh × List MemPlace} (h:DataW.trod enc Tryz.prog W 0 (λ_=>true) held fuel 24 cs=some x) (hz:∀v∈cs,Zc W v) (hw:(DataW.weights Tryz.prog 24 x.1).all (· <=reachBytes)=true)
 {φ:List LI} {H:Hp} (hr:cT_ φ H W) (hn:iX_ H):
 ∃φ' H' a n ps T,φ<+:φ'/\H<+:H'/\cT_ φ' H' W/\iX_ H'/\Is2 φ' [.sl a n 5] cs/\Tr H' a n ps T/\n*80<=140737488351232:=by
 obtain⟨xs,n,rfl,rfl,hlen,hxs,hf⟩:=DataW.trod_struct Tryz.underlying24 h;have h1:Tryz.prog.cellsOf 24=1:=by kernel_rfl
 have c1:Tryz.prog.cellsOf 22=1:=by kernel_rfl
 rw[h1]at hlen
 match cs,hlen with
 | [v0],_=>
  have f0:DataW.trod enc Tryz.prog W 0 (λ_=>true) held n 22 (([v0].drop 0).take (Tryz.prog.cellsOf 22))=xs[0]? :=hf 0 _ rfl;simp only[c1,drop_zero,take_succ_cons,take_zero]at f0
  match xs,hxs with
  |[x0],_=>
   simp only[getElem?_cons_zero]at f0;simp only[map_cons,map_nil,DataW.weights,Tryz.underlying24]at hw;obtain⟨φ1,H1,a,m,ps,T,v,e,p1,q1,r1,o1,i1,s1,b1⟩:=C4_ f0 (λv hv=>hz v hv) (og_ hw (j:=0) rfl rfl) hr hn;simp only[List.cons.injEq,and_true]at e;subst e;exact⟨φ1,H1,a,m,ps,T,p1,q1,r1,o1,.cons i1 .nil,s1,b1⟩
end
end Go.Am
namespace Go.Am
open List
structure dF_{α β:Type}(ek:α->RV)(ev:β->RV)(H:Hp)(l:Nat)(ps:List (α × β)):Prop where
 ex:∃es c,H[l]?=some (.map es c)/\es.map (λe=>(e.2.1,e.2.2))=ps.map (λp=>(ek p.1,ev p.2))/\(∀e∈es,e.1<c)/\(es.map (·.1)).Nodup
 nodup:(ps.map (·.1)).Nodup
structure tZ_{α:Type}(ag:Bool)(lv:List LK)(ek:α->RV):Prop where
 fit:∀a,nF_ ag lv (ek a)=true
 inj:∀a b,ek a=ek b->a=b
theorem DF_ (h:nF_ ag lv k=true) (r:nF_ ag lv k'=true):∃e,le_ k.cells k'.cells=some e/\(e=true↔k=k'):=by
 cases ag with
 | false=>
  cases k with
  |a _=>cases h
  | s v=>cases k' with
   |a _=>cases r
   |s G=>
    have⟨e,C,A⟩:=jD_ h r
    exact⟨e,C,A.trans ⟨λq=>by grind,λq=>by cases q;rfl⟩⟩
 | true=>
  cases k with
  |s _=>cases h
  | a F=>cases k' with
   |s _=>cases r
   |a D=>
    have⟨e,C,A⟩:=jD_ h r
    exact⟨e,C,A.trans ⟨λq=>by grind,λq=>by cases q;rfl⟩⟩
section
variable{α β:Type}[DecidableEq α]{ek:α->RV}{ev:β->RV}{ag:Bool}{lv:List LK}{H:Hp}{l:Nat}{ps:List (α × β)}
def look(ps:List (α × β))(k:α):Option β:=(ps.find? λp=>decide (p.1=k)).map (·.2)
def fF_(ps:List (α × β))(k:α)(v:β):List (α × β):=match look ps k with
 |some _=>ps.map λp=>if p.1=k then (k,v) else p
 |none=>ps++[(k,v)]
theorem wV_ (ok:tZ_ ag lv ek) (k:α):∀{es:List Ent}{ps:List (α × β)} (i:Nat),es.map (λe=>(e.2.1,e.2.2))=ps.map (λp=>(ek p.1,ev p.2))->
 (look ps k=none/\pa_ ag lv (ek k) es i=some none/\∀p∈ps,p.1≠k)\/∃j v,look ps k=some v/\pa_ ag lv (ek k) es i=some (some (i+j))/\ps[j]?=some (k,v)
 |[],[],i,_=> .inl ⟨rfl,rfl,t_⟩
 |[],_::_,_,h=>by grind
 |_::_,[],_,h=>by grind
 | e::es,p::ps,i,h=>by
  simp[map_cons]at h;have⟨⟨I,U⟩,h3⟩:=h;have⟨q,G,D⟩:=DF_ (ok.fit k) (ok.fit p.1);by_cases r:p.1=k
  .right;refine⟨0,p.2,by simp[look,r],?_,by simp[<-r]⟩;have:=D.2 g_;subst this;simp[pa_,I,ok.fit,G]
  ·have A:q=false:=by
    cases q with
    |false=>rfl
    |true=>exact absurd (ok.inj _ _ (D.1 rfl)).symm r
   subst A;have O:look (p::ps) k=look ps k:=by simp[look,r]
   have J:pa_ ag lv (ek k) (e::es) i=pa_ ag lv (ek k) es (i+1):=by simp[pa_,I,ok.fit,G]
   rcases wV_ ok k (i+1) h3 with⟨N,C,F⟩|⟨j,v,N,C,F⟩
   .grind
   .exact .inr ⟨j+1,v,g_,by rw[J,C];congr 2;omega,F⟩
end
section
variable{α β:Type}{ek:α->RV}{ev:β->RV}{ag:Bool}{lv:List LK}{H:Hp}{l:Nat}{ps:List (α × β)}
theorem Hg_{es:List Ent}(h:es.map (λe=>(e.2.1,e.2.2))=ps.map λp=>(ek p.1,ev p.2)){j:Nat}(A:ps[j]?=some (k,v)):∃e,es[j]?=some e/\e.2.1=ek k/\e.2.2=ev v:=by
 have:=congrArg (λl:List (RV × RV)=>l[j]?) h;simp only[getElem?_map,A]at this;cases r:es[j]? with
 |none=>rw[r]at this;simp at this
 |some e=>rw[r]at this;simp at this;exact⟨e,rfl,this.1,this.2⟩
end
section
variable{α β:Type}[DecidableEq α]{ek:α->RV}{ev:β->RV}{ag:Bool}{lv:List LK}{H:Hp}{l:Nat}{ps:List (α × β)}
theorem fv_(ok:tZ_ ag lv ek)(h:dF_ ek ev H l ps)(k:α)(I:∀v,look ps k=some v->K (ev v) true)(N:look ps k=none->K z false):tl_ H (some l) ag lv (ek k) z K:=by
 have⟨F,c,U,r,_,_⟩:=h.ex;unfold tl_;rcases wV_ ok k 0 r with⟨D,A,_⟩|⟨j,v,D,A,C⟩
 .grind
 .have⟨e,G,J,O⟩:=Hg_ r C;grind
end
section
variable{α β:Type}{ek:α->RV}{ev:β->RV}{ag:Bool}{lv:List LK}{H:Hp}{l:Nat}{ps:List (α × β)}
theorem ma_(h:dF_ ek ev H l ps)(C:K ps.length):o7_ H (some l) K:=by
 have⟨A,c,D,r,_,_⟩:=h.ex;unfold o7_;have:=congrArg length r;grind
end
section
variable{α β:Type}[DecidableEq α]{ek:α->RV}{ev:β->RV}{ag:Bool}{lv:List LK}{H:Hp}{l:Nat}{ps:List (α × β)}
theorem cW_ (h:look ps k=some v):(k,v)∈ps:=by
 unfold look at h;cases r:ps.find? λp=>decide (p.1=k) with
 |none=>rw[r]at h;cases h
 |some p=>
  grind
theorem oD_(h:look ps k=none):∀p∈ps,p.1≠k:=by
 unfold look at h;rw[Option.map_eq_none_iff,find?_eq_none]at h;grind
theorem oC_ (k:α) (v:β):(fF_ ps k v).map (·.1)=match look ps k with|some _=>ps.map (·.1)|none=>ps.map (·.1)++[k]:=by
 unfold fF_;cases look ps k with
 |none=>simp
 |some _=>
  simp only[map_map];apply map_congr_left;grind
theorem iC_ (ok:tZ_ ag lv N) (h:dF_ N ev H l ps) (k:α) (v:β) {K:Hp->Prop} (hK:∀H',H'.length=H.length->(∀G,G≠l->H'[G]?=H[G]?)->dF_ N ev H' l (fF_ ps k v)->K H'):x8_ H (some l) ag lv (N k) (ev v) K:=by
 have⟨es,c,hm,O,hb,hn⟩:=h.ex;have F:=(kC.1 hm).1;unfold x8_;simp[hm];rcases wV_ ok k 0 O with⟨I,V,D⟩|⟨j,v0,I,V,D⟩
 .rw[V];refine hK _ t_ (λG U=>by rw[kF (Ne.symm U)]) ⟨⟨es++[(c,N k,ev v)],c+1,by rw[kH F],?_,?_,?_⟩,?_⟩
  .unfold fF_;rw[I];simp[O]
  .grind
  .rw[kL,kT];refine⟨hn,t_,λa Z b r q=>?_⟩;simp at r;have⟨e,Y,A⟩:=lA.1 Z;have:=hb e Y;omega
  .rw[oC_,I,kT];refine⟨h.nodup,t_,λa Z b r q=>?_⟩;simp at r;subst q;subst r;have⟨p,hp,A⟩:=lA.1 Z;exact D p hp A
 ·rw[V];have⟨e,J,A,e3⟩:=Hg_ O D;simp[J];refine hK _ t_ (λG U=>by rw[kF (Ne.symm U)]) ⟨⟨es.set j (e.1,e.2.1,ev v),c,by rw[kH F],?_,?_,?_⟩,?_⟩
  ·have W:fF_ ps k v=ps.set j (k,v):=by
    unfold fF_;rw[I];apply ext_getElem?;intro n;rw[getElem?_map,getElem?_set];by_cases C:j=n
    .subst C;rw[D];simp[(kC.1 D).1]
    ·rw[if_neg C];cases hx:ps[n]? with
     |none=>rfl
     | some p=>
      have hpk:p.1≠k:=λq=>by
       have hj1:(ps.map (·.1))[j]?=some k:=by rw[getElem?_map,D];rfl
       have hn1:(ps.map (·.1))[n]?=some k:=by rw[getElem?_map,hx,Option.map_some,q]
       have⟨l1,J⟩:=kC.1 hj1;obtain⟨l2,A⟩:=kC.1 hn1;rcases Nat.lt_or_gt_of_ne C with g|g
       .exact kS.1 h.nodup j n l1 l2 g (by rw[J,A])
       .exact kS.1 h.nodup n j l2 l1 g (by rw[J,A])
      simp[hpk]
   rw[W,List.map_set,List.map_set,O,A]
  .intro x hx;rcases mem_or_eq_of_mem_set hx with q|q
   .exact hb x q
   .rw[q];exact hb e (mem_of_getElem? J)
  .rw[List.map_set];grind
  .rw[oC_,I];exact h.nodup
end
structure fg_ {α β:Type} (ek:α->RV) (ev:β->RV) (H:Hp) (it l:Nat) (ps:List (α × β)) (js:List Nat):Prop where
 ex:∃es c,H[l]?=some (.map es c)/\es.map (λe=>(e.2.1,e.2.2))=ps.map (λp=>(ek p.1,ev p.2))/\(∀e∈es,e.1<c)/\(es.map (·.1)).Nodup/\
  H[it]?=some (.iter (some l) c (js.map λj=>((es[j]?).map (·.1)).getD 0) c)
 nod:js.Nodup
 lt:∀j∈js,j<ps.length
section
variable{α β:Type}{ek:α->RV}{ev:β->RV}{H H':Hp}{it l:Nat}{ps:List (α × β)}{js:List Nat}
theorem dF_.keep(h:dF_ ek ev H l ps)(e:H'[l]?=H[l]?):dF_ ek ev H' l ps:=by
 have⟨A,c,C,r⟩:=h.ex;exact⟨⟨A,c,g_,r⟩,h.nodup⟩
theorem dF_.lt(h:dF_ ek ev H l ps):l<H.length:=by
 have⟨r,c,A,_⟩:=h.ex;grind
theorem fg_.keep(h:fg_ ek ev H it l ps js)(I:H'[l]?=H[l]?)(D:H'[it]?=H[it]?):fg_ ek ev H' it l ps js:=by
 have⟨G,c,J,A,C,F,r⟩:=h.ex;exact⟨⟨G,c,g_,A,C,F,by rw[D];exact r⟩,h.nod,h.lt⟩
theorem fg_.lts(h:fg_ ek ev H it l ps js):l<H.length/\it<H.length:=by
 have⟨r,c,A,_,_,_,C⟩:=h.ex;grind
theorem fg_.map(h:fg_ ek ev H it l ps js)(C:(ps.map (·.1)).Nodup):dF_ ek ev H l ps:=by
 have⟨G,c,F,r,A,D,_⟩:=h.ex;exact⟨⟨G,c,F,r,A,D⟩,C⟩
theorem vC_(h:dF_ ek ev H l ps)(C:∀o,fg_ ek ev (H++[o]) H.length l ps []->K (H++[o])):rng H (some l) K:=by
 have⟨I,c,G,r,A,D⟩:=h.ex;unfold rng;simp[G];exact C _ ⟨⟨I,c,g_,r,A,D,by rw[getElem?_concat_length];rfl⟩,nodup_nil,λj F=>by cases F⟩
theorem B1_{es:List Ent}(h:es.map (λe=>(e.2.1,e.2.2))=ps.map λp=>(ek p.1,ev p.2)):es.length=ps.length:=by
 have:=congrArg length h;simpa
theorem D8_{es:List Ent}(h:es.map (λe=>(e.2.1,e.2.2))=ps.map λp=>(ek p.1,ev p.2))(A:j<ps.length)(r:j<es.length):es[j].2.1=ek ps[j].1/\es[j].2.2=ev ps[j].2:=by
 have:=congrArg (λl:List (RV × RV)=>l[j]?) h;grind
theorem F9_{es:List Ent}(r:(es.map (·.1)).Nodup)(hi:i<es.length)(A:j<es.length)(h:es[i].1=es[j].1):i=j:=by
 rcases Nat.lt_trichotomy i j with g|g|g
 .exact absurd g_ (kS.1 r i j g_ g_ g)
 .exact g
 .exact absurd g_ (kS.1 r j i g_ g_ g)
theorem vY_ (h:fg_ ek ev H it l ps js) (U:it≠l)
 (h1:∀j (D:j<ps.length),j∉js->∀H',H'.length=H.length->(∀O,O≠it->H'[O]?=H[O]?)->fg_ ek ev H' it l ps (js++[j])->K1 (ek ps[j].1) (ev ps[j].2) H')
 (h2:js.Perm (List.range ps.length)->K2 H):nxt H it 0 K1 K2:=by
 have⟨C,c,hm,Z,hb,hn,G⟩:=h.ex;have hl:=B1_ Z;have W:=(kC.1 G).1;have A:∀j (D:j<C.length),((C[j]?).map (·.1)).getD 0=C[j].1:=λj D=>by simp[kG D]
 refine⟨rfl,?_⟩;simp only[G,hm];refine⟨?_,λe r V=>?_,λhall=>?_⟩
 .cases C with
  |nil=>exact .inr (.inl rfl)
  |cons e C=>exact .inr (.inr ⟨e,t_,hb e t_⟩)
 ·obtain⟨j,D,rfl⟩:=kK r;have J:=λq=>V (lA.2 ⟨j,q,A j D⟩);have⟨e1,e2⟩:=D8_ Z o_ D;rw[e1,e2];refine h1 j o_ J _ t_ (λO Y=>by rw[kF (Ne.symm Y)]) ⟨⟨C,c,by rw[kF U];exact hm,Z,hb,hn,?_⟩,?_,?_⟩
  .rw[kH W,kL,map_singleton,A j D]
  .rw[kT];exact⟨h.nod,t_,λa ha b I q=>by simp at I;subst q;subst I;exact J ha⟩
  ·intro i N;rcases kD.1 N with q|q
   .exact h.lt i q
   .have:i=j:=by simpa using q
    omega
 ·refine h2 ((perm_ext_iff_of_nodup h.nod nodup_range).2 λj=>⟨λq=>mem_range.2 (h.lt j q),λq=>?_⟩);have D:j<C.length:=by have:=mem_range.1 q;omega
  have r:C[j].1∈js.map λj=>((C[j]?).map (·.1)).getD 0:=by
   grind
  have⟨i,N,e⟩:=lA.1 r;have F:i<C.length:=by have:=h.lt i N;omega
  rw[A i F]at e;rw[<-F9_ hn F D e];exact N
theorem rS_ {j:Nat} (h:fg_ ek ev H it l ps (js++[j])) (G:j<ps.length) {K:RV->RV->Prop} (O:K (ek ps[j].1) (ev ps[j].2)):Dg_ H it 0 K:=by
 obtain⟨C,c,I,r,U,F,D⟩:=h.ex;have V:=B1_ r;have A:j<C.length:=by omega
 refine⟨rfl,?_⟩;simp only[D,I,kL,map_singleton,getLast?_concat,kG A,Option.map_some,Option.getD_some];have Y:C.find? (λe=>e.1==C[j].1)=some C[j]:=by
  have:∀{l:List Ent},(l.map (·.1)).Nodup->∀e∈l,l.find? (λx=>x.1==e.1)=some e:=by
   intro l;induction l with
   |nil=>intro _ e r;cases r
   |cons x l N=>
    intro F e r;rw[map_cons,nodup_cons]at F;rw[find?_cons];rcases kU.1 r with rfl|r
    .simp
    .grind
  grind
 obtain⟨J,W⟩:=D8_ r G A;grind
end
def tO_(n:Int):Bool:=(leI 97 n&&leI n 122)||(leI 48 n&&leI n 57)
def jv_(s:Y_):Nat->Bool
 |0=>true
 |i+1=>jv_ s i&&tO_ (byt s i)
def a8_(s:Y_)(m:Int):Bool:=jv_ s s.size&&(leI 1 (sz s)&&leI (sz s) m)
theorem kO_ (h:tO_ (byt s i)=false):∀n,i<n->jv_ s n=false
 |0,r=>by omega
 | n+1,r=>by
  rcases Nat.lt_or_ge i n with q|q
  .simp[jv_,kO_ h n q]
  .obtain rfl:i=n:=by omega
   simp[jv_,h]
section
variable{H:Hp}{Q:Post}{s:Y_}
theorem k7_:s=mkS []↔s.size=0:=by
 constructor
 .simp_all
 .intro h;have:bs s=[]:=length_eq_zero_iff.1 (by simp_all);exact i6_ (by simp_all)
theorem py_ {m:Int} (hs:s.size<=140737488351232) (hQ:Q (gB (a8_ s m)) H):dm_ [gS s,gI m] H Q:=by
 refine⟨s.size+2,?_⟩;rw[Cd_];have loop:∀(f i:Nat),s.size-i<f->i<=s.size->jv_ s i=true->dm_.l2 f s m (sz s) (i:Int) H Q:=by
  intro f;induction f with
  |zero=>intro i h;omega
  | succ f ih=>
   intro i hf hi hw;rw[dm_.l2_eq];rcases Nat.lt_or_ge i s.size with hi' |hi'
   ·rw[az_ (by simp[m6_];omega)];refine ab_ (by simp[m6_];omega) ?_;have etN:tN (i:Int)=i:=rfl;rw[etN,an_ o_];have nx:tO_ (byt s i)=true->dm_.l2 f s m (sz s) ((i+1:Nat):Int) H Q:=λh=>ih (i+1) o_ o_ (by simp[jv_,hw,h]);have no:tO_ (byt s i)=false->Q (gB false) H:=λh=>by
     have:a8_ s m=false:=by unfold a8_;rw[kO_ h _ hi'];rfl
     rw[<-this];exact hQ
    generalize byt s i=b at*;refine aa_ (λe1=>aa_ (λe2=>no ?_) λe2=>aa_ (λe3=>no ?_) λe3=>nx ?_) (λe1=>aa_ (λe2=>aa_ (λe3=>no ?_) λe3=>aa_ (λe4=>no ?_) λe4=>nx ?_) λe2=>nx ?_)<;>
     simp[tO_] at* <;>omega
   ·obtain rfl:i=s.size:=by omega
    rw[aA_ (by simp[m6_])];unfold a8_ at hQ;rw[hw,Bool.true_and]at hQ;refine aa_ (λe=>?_) λe=>?_
    .have h0:s.size≠0:=λz=>by rw[k7_.2 z]at e;simp at e
     rw[show leI 1 (sz s)=true by simp[m6_];omega,Bool.true_and]at hQ;exact hQ
    .have h0:s.size=0:=k7_.1 (by simpa using e);rw[show leI 1 (sz s)=false by simp[m6_];omega,Bool.false_and]at hQ;exact hQ
 exact loop _ 0 o_ (kP _) rfl
theorem mD_ {m:Int} (hs:s.size<=140737488351232) (hQ:Q (gB (a8_ s m)) H):cr_ [gS s,gI m] H Q:=by
 refine⟨s.size+2,?_⟩;rw[yi_];have loop:∀(f i:Nat),s.size-i<f->i<=s.size->jv_ s i=true->cr_.l2 f s m (i:Int) H Q:=by
  intro f;induction f with
  |zero=>intro i h;omega
  | succ f ih=>
   intro i hf hi hw;rw[cr_.l2_eq];rcases Nat.lt_or_ge i s.size with hi' |hi'
   ·rw[az_ (by simp[m6_];omega)];have hck:(leI 0 (i:Int)&&ltI (i:Int) (sz s))=true:=by simp[m6_];omega
    rw[hck];simp only[af_];have etN:tN (i:Int)=i:=rfl;rw[etN,an_ o_];have nx:tO_ (byt s i)=true->cr_.l2 f s m ((i+1:Nat):Int) H Q:=λh=>ih (i+1) o_ o_ (by simp[jv_,hw,h]);have no:tO_ (byt s i)=false->Q (gB false) H:=λh=>by
     have:a8_ s m=false:=by unfold a8_;rw[kO_ h _ hi'];rfl
     rw[<-this];exact hQ
    generalize byt s i=b at*;refine aa_ (λe1=>aa_ (λe2=>nx ?_) λe2=>aa_ (λe3=>aa_ (λe4=>no ?_) λe4=>nx ?_) λe3=>no ?_) (λe1=>aa_ (λe3=>aa_ (λe4=>no ?_) λe4=>nx ?_) λe3=>no ?_)<;>
     simp[tO_] at* <;>omega
   .obtain rfl:i=s.size:=by omega
    rw[aA_ (by simp[m6_])];unfold a8_ at hQ;rw[hw,Bool.true_and]at hQ;refine aa_ (λe=>?_) λe=>?_
    .rw[e,Bool.true_and]at hQ;exact hQ
    .rw[e,Bool.false_and]at hQ;exact hQ
 exact loop _ 0 o_ (kP _) rfl
end
theorem ej_(h:(!b)=true):b=false:=by cases b<;>simp_all
theorem e3_(h:(!b)=false):b=true:=by cases b<;>simp_all
theorem lv_(s:Y_)(l h:Nat):(sub s l h).size<=s.size:=by
 unfold sub;rw[ByteArray.size_extract];omega
theorem kZ_(s:Y_)(j:Nat):0<=byt s j/\byt s j<=255:=by
 unfold byt;have:((s.data.toList.getD j 0).toNat)<256:=UInt8.toNat_lt _;omega
theorem ff_(s:Y_)(j:Nat):ad_ .i64 (byt s j)=byt s j:=by
 have:=kZ_ s j;exact b7_ o_ o_
def co_(s:Y_):Option Y_:=match leI 1 (sz s)&&(eqI (byt s 0) 115&&a8_ (sub s 1 s.size) 4) with|true=>some (sub s 1 s.size)|false=>none
def b1_(s:Y_):Option (Int × Y_):=match leI 2 (sz s)&&(eqI (byt s 0) 102&&(leI 1 (byt s 1)&&a8_ (sub s 2 s.size) 3)) with|true=>some (byt s 1,sub s 2 s.size)|false=>none
def c3_(s:Y_):Option Int:=match eqI (sz s) 2&&(eqI (byt s 0) 105&&leI 1 (byt s 1)) with|true=>some (byt s 1)|false=>none
structure SnapR where
 id:Int
 kind:Int
 parent:Y_
 label:Y_
 deriving DecidableEq
structure InoR where
 links:Int
 content:Y_
 deriving DecidableEq
def SnapR.cells(x:SnapR):List GV:=[.int .i64 x.id,.int .i64 x.kind,.str x.parent,.str x.label]
def InoR.cells(x:InoR):List GV:=[.int .i64 x.links,.str x.content]
def kC_:SnapR:=⟨0,0,mkS [],mkS []⟩
def yg_:InoR:=⟨0,mkS []⟩
def fx_(x:SnapR):Bool:=(leI 1 x.id&&leI x.id 255)&&((leI 0 x.kind&&leI x.kind 2)&&((fy_ x.parent (mkS [])||a8_ x.parent 4)&&leI (sz x.label) 3))
def ei_(x:InoR):Bool:=(leI 1 x.links&&leI x.links 255)&&leI (sz x.content) 6
def oj_(s:Y_):SnapR:=⟨byt s 0,byt s 1,sub s 3 (tN (3+byt s 2)),sub s (tN (3+byt s 2)) s.size⟩
def tR_(s:Y_):InoR:=⟨byt s 0,sub s 1 s.size⟩
def bD_(s:Y_):Option SnapR:=match leI 3 (sz s)&&(leI (3+byt s 2) (sz s)&&fx_ (oj_ s)) with|true=>some (oj_ s)|false=>none
def cN_(s:Y_):Option InoR:=match leI 1 (sz s)&&ei_ (tR_ s) with|true=>some (tR_ s)|false=>none
def JO_(o:Option SnapR):Int:=match o with|some _=>0|none=>1700
def Kj_(o:Option InoR):Int:=match o with|some _=>0|none=>1800
section
variable{H:Hp}{Q:Post}{s:Y_}
theorem e6_(r:s.size<=140737488351232)(A:Q (gB (a8_ s 4)) H):cZ_ [gS s] H Q:=by
 refine⟨1,?_⟩;rw[ye_];refine py_ r ?_;simp_all
theorem f8_(r:s.size<=140737488351232)(A:Q (gB (a8_ s 3)) H):dj_ [gS s] H Q:=by
 refine⟨1,?_⟩;rw[xF_];refine py_ r ?_;simp_all
theorem cB_(r:s.size<=140737488351232)(A:Q (gB (a8_ s 4)) H):bt_ [gS s] H Q:=by
 refine⟨1,?_⟩;rw[tC_];refine mD_ r ?_;simp_all
theorem fZ_(r:s.size<=140737488351232)(A:Q (gB (a8_ s 3)) H):cH_ [gS s] H Q:=by
 refine⟨1,?_⟩;rw[th_];refine mD_ r ?_;simp_all
theorem hE_(r:Q (gB (leI 1 n&&leI n 255)) H):gx_ [gI n] H Q:=by
 refine⟨1,?_⟩;rw[ET_];refine aa_ (λe=>?_) λe=>?_
 .grind
 .grind
theorem gN_(r:Q (gB (leI 1 n&&leI n 255)) H):dn_ [gI n] H Q:=by
 refine⟨1,?_⟩;rw[xr_];refine aa_ (λe=>?_) λe=>?_
 .grind
 .grind
theorem nQ_(A:1<=n)(r:Q (gB (leI n (sz s)&&eqI (byt s 0) p)) H):jS_ [gS s,.g (.int .u8 p),gI n] H Q:=by
 refine⟨1,?_⟩;rw[E2_];refine aa_ (λe=>?_) λe=>?_
 .rw[e,Bool.true_and]at r;refine ab_ (by simp at e ⊢;omega) ?_;exact r
 .grind
theorem xD_ (hs:s.size<=140737488351232) (hQ:Q (.tup [.s (.str ((co_ s).getD (mkS []))),.s (.bool (co_ s).isSome)]) H):jM_ [gS s] H Q:=by
 have hz:=lv_ s 1 s.size;refine⟨1,?_⟩;rw[CD_];refine nQ_ o_ ?_;simp only[aO_,ao_];refine aa_ (λe=>?_) λe=>?_
 .have:co_ s=none:=by unfold co_;rw[<-Bool.and_assoc,ej_ e];rfl
  rw[this]at hQ;exact hQ
 ·have e':(leI 1 (sz s)&&eqI (byt s 0) 115)=true:=by simpa using e
  have h1:1<=s.size:=by simp at e';omega
  refine ab_ s_ ?_;refine e6_ (Nat.le_trans hz hs) ?_;simp only[aO_,ao_];refine aa_ (λe2=>?_) λe2=>?_
  .have:co_ s=none:=by unfold co_;rw[<-Bool.and_assoc,e',show a8_ (sub s 1 s.size) 4=false by simpa using e2];rfl
   rw[this]at hQ;exact hQ
  .have:co_ s=some (sub s 1 s.size):=by unfold co_;rw[<-Bool.and_assoc,e',show a8_ (sub s 1 s.size) 4=true by simpa using e2];rfl
   rw[this]at hQ;refine ab_ s_ ?_;exact hQ
theorem qS_ (hs:s.size<=140737488351232) (hQ:Q (.tup [.s (.str ((co_ s).getD (mkS []))),.s (.bool (co_ s).isSome)]) H):f5_ [gS s] H Q:=by
 have hz:=lv_ s 1 s.size;refine⟨1,?_⟩;rw[uA_];refine aa_ (λe=>?_) λe=>?_
 .have:co_ s=none:=by unfold co_;rw[show leI 1 (sz s)=false by simp at e ⊢;omega];rfl
  rw[this]at hQ;exact hQ
 ·have h1:1<=s.size:=by simp at e;omega
  have e0:leI 1 (sz s)=true:=by simp;omega
  refine ab_ s_ ?_;refine aa_ (λe1=>?_) λe1=>?_
  .have:co_ s=none:=by unfold co_;rw[show eqI (byt s 0) 115=false by simpa using e1,e0];rfl
   rw[this]at hQ;exact hQ
  have e1':eqI (byt s 0) 115=true:=by simpa using e1
  refine ab_ s_ ?_;refine cB_ (Nat.le_trans hz hs) ?_;simp only[aO_,ao_];refine aa_ (λe2=>?_) λe2=>?_
  .have:co_ s=none:=by unfold co_;rw[e0,e1',show a8_ (sub s 1 s.size) 4=false by simpa using e2];rfl
   rw[this]at hQ;exact hQ
  .have:co_ s=some (sub s 1 s.size):=by unfold co_;rw[e0,e1',show a8_ (sub s 1 s.size) 4=true by simpa using e2];rfl
   rw[this]at hQ;refine ab_ s_ ?_;exact hQ
theorem yh_ (hs:s.size<=140737488351232) (hQ:Q (.tup [nN ((b1_ s).map (·.1) |>.getD 0),.s (.str ((b1_ s).map (·.2) |>.getD (mkS []))),.s (.bool (b1_ s).isSome)]) H):kb_ [gS s] H Q:=by
 have hz:=lv_ s 2 s.size;refine⟨1,?_⟩;rw[BJ_];refine nQ_ o_ ?_;simp only[aO_,ao_];refine aa_ (λe=>?_) λe=>?_
 .have:b1_ s=none:=by unfold b1_;rw[<-Bool.and_assoc,ej_ e];rfl
  rw[this]at hQ;exact hQ
 ·have e':(leI 2 (sz s)&&eqI (byt s 0) 102)=true:=by simpa using e
  have h1:2<=s.size:=by simp at e';omega
  have hb:=kZ_ s 1;refine ab_ s_ ?_;refine hE_ ?_;simp only[aO_,ao_];rw[show tN 1=1 from rfl,ff_];refine aa_ (λe2=>?_) λe2=>?_
  .have:b1_ s=none:=by unfold b1_;rw[<-Bool.and_assoc,e',show leI 1 (byt s 1)=false by simp at e2 ⊢;omega];rfl
   rw[this]at hQ;exact hQ
  ·have e3:leI 1 (byt s 1)=true:=by simp at e2 ⊢;omega
   refine ab_ s_ ?_;refine f8_ (Nat.le_trans hz hs) ?_;simp only[aO_,ao_];refine aa_ (λe4=>?_) λe4=>?_
   .have:b1_ s=none:=by unfold b1_;rw[<-Bool.and_assoc,e',e3,show a8_ (sub s 2 s.size) 3=false by simpa using e4];rfl
    rw[this]at hQ;exact hQ
   .have:b1_ s=some (byt s 1,sub s 2 s.size):=by unfold b1_;rw[<-Bool.and_assoc,e',e3,show a8_ (sub s 2 s.size) 3=true by simpa using e4];rfl
    rw[this]at hQ;exact ab_ s_ (ab_ s_ hQ)
theorem rJ_ (hs:s.size<=140737488351232) (hQ:Q (.tup [nN ((b1_ s).map (·.1) |>.getD 0),.s (.str ((b1_ s).map (·.2) |>.getD (mkS []))),.s (.bool (b1_ s).isSome)]) H):f1_ [gS s] H Q:=by
 have hz:=lv_ s 2 s.size;have hb:=kZ_ s 1;refine⟨1,?_⟩;rw[u9_];refine aa_ (λe=>?_) λe=>?_
 .have:b1_ s=none:=by unfold b1_;rw[show leI 2 (sz s)=false by simp at e ⊢;omega];rfl
  rw[this]at hQ;exact hQ
 ·have h1:2<=s.size:=by simp at e;omega
  have e0:leI 2 (sz s)=true:=by simp;omega
  refine ab_ s_ ?_;refine aa_ (λe1=>?_) λe1=>?_
  .have:b1_ s=none:=by unfold b1_;rw[show eqI (byt s 0) 102=false by simpa using e1,e0];rfl
   rw[this]at hQ;exact hQ
  have e1':eqI (byt s 0) 102=true:=by simpa using e1
  refine ab_ s_ ?_;rw[show tN 1=1 from rfl,ff_];refine aa_ (λe2=>?_) λe2=>?_
  .have:b1_ s=none:=by unfold b1_;rw[e0,e1',show leI 1 (byt s 1)=false by simp at e2 ⊢;omega];rfl
   rw[this]at hQ;exact hQ
  ·have e3:leI 1 (byt s 1)=true:=by simp at e2 ⊢;omega
   refine ab_ s_ ?_;refine fZ_ (Nat.le_trans hz hs) ?_;simp only[aO_,ao_];refine aa_ (λe4=>?_) λe4=>?_
   .have:b1_ s=none:=by unfold b1_;rw[e0,e1',e3,show a8_ (sub s 2 s.size) 3=false by simpa using e4];rfl
    rw[this]at hQ;exact hQ
   .have:b1_ s=some (byt s 1,sub s 2 s.size):=by unfold b1_;rw[e0,e1',e3,show a8_ (sub s 2 s.size) 3=true by simpa using e4];rfl
    rw[this]at hQ;exact ab_ s_ (ab_ s_ hQ)
theorem uS_ (F:Q (.tup [nN ((c3_ s).getD 0),.s (.bool (c3_ s).isSome)]) H):hm_ [gS s] H Q:=by
 have G:=kZ_ s 1;refine⟨1,?_⟩;rw[yj_];refine nQ_ o_ (aa_ (λe=>?_) λe=>?_)
 ·have:c3_ s=none:=by
   unfold c3_;have:(eqI (sz s) 2&&(eqI (byt s 0) 105&&leI 1 (byt s 1)))=false:=by
    cases h:(eqI (sz s) 2&&(eqI (byt s 0) 105&&leI 1 (byt s 1))) with
    |false=>rfl
    |true=>simp at h e;omega
   grind
  grind
 ·have C:eqI (byt s 0) 105=true:=by grind
  refine aa_ (λD=>?_) λD=>?_
  .have:c3_ s=none:=by unfold c3_;rw[show eqI (sz s) 2=false by simpa using D];rfl
   grind
  ·have r:eqI (sz s) 2=true:=by grind
   refine ab_ (by simp_all) (hE_ ?_);rw[show tN 1=1 from rfl,ff_];refine aa_ (λA=>?_) λA=>?_
   .have:c3_ s=none:=by unfold c3_;rw[r,C,show leI 1 (byt s 1)=false by simp at A ⊢;omega];rfl
    grind
   .have:c3_ s=some (byt s 1):=by unfold c3_;rw[r,C,show leI 1 (byt s 1)=true by simp at A ⊢;omega];rfl
    simp_all
theorem oX_ (G:Q (.tup [nN ((c3_ s).getD 0),.s (.bool (c3_ s).isSome)]) H):eF_ [gS s] H Q:=by
 have I:=kZ_ s 1;refine⟨1,?_⟩;rw[rR_];refine aa_ (λF=>?_) λF=>?_
 .have:c3_ s=none:=by unfold c3_;rw[show eqI (sz s) 2=false by simpa using F];rfl
  grind
 ·have r:eqI (sz s) 2=true:=by grind
  refine ab_ (by simp_all) (aa_ (λD=>?_) λD=>?_)
  .have:c3_ s=none:=by unfold c3_;rw[r,show eqI (byt s 0) 105=false by simpa using D];rfl
   grind
  have A:eqI (byt s 0) 105=true:=by simp_all
  refine ab_ (by simp_all) ?_;rw[show tN 1=1 from rfl,ff_];refine aa_ (λC=>?_) λC=>?_
  .have:c3_ s=none:=by unfold c3_;rw[r,A,show leI 1 (byt s 1)=false by simp at C ⊢;omega];rfl
   grind
  .have:c3_ s=some (byt s 1):=by unfold c3_;rw[r,A,show leI 1 (byt s 1)=true by simp at C ⊢;omega];rfl
   simp_all
end
section
variable{H:Hp}{Q:Post}{s:Y_}
theorem nZ_(r:Q (gB (leI 0 n&&leI n 2)) H):gO_ [gI n] H Q:=by
 refine⟨1,?_⟩;rw[Aa_];refine aa_ (λe=>?_) λe=>?_
 .grind
 .grind
theorem i3_(r:Q (gB (leI (sz s) 3)) H):fW_ [gS s] H Q:=⟨1,r⟩
theorem hk_(r:Q (gB (leI (sz s) 6)) H):dv_ [gS s] H Q:=⟨1,r⟩
theorem pq_ (G:x.parent.size<=140737488351232) (F:Q (gB (fx_ x)) H):h2_ [.agg [.int .i64 x.id,.int .i64 x.kind,.str x.parent,.str x.label]] H Q:=by
 refine⟨1,?_⟩;rw[AO_];unfold fx_ at F;refine hE_ (aa_ (λD=>?_) λD=>?_)
 rotate_left
 .grind
 refine nZ_ (aa_ (λA=>?_) λA=>?_)
 rotate_left
 .grind
 refine aa_ (λC=>?_) λC=>?_
 .refine i3_ ?_;simp_all
 .refine e6_ G (aa_ (λr=>?_) λr=>?_)
  .refine i3_ ?_;simp_all
  .grind
theorem jK_ (I:x.parent.size<=140737488351232) (G:Q (gB (fx_ x)) H):dZ_ [.agg [.int .i64 x.id,.int .i64 x.kind,.str x.parent,.str x.label]] H Q:=by
 refine⟨1,?_⟩;rw[sd_];unfold fx_ at G;refine gN_ (aa_ (λD=>?_) λD=>?_)
 rotate_left
 .grind
 refine aa_ (λA=>?_) λA=>?_
 rotate_left
 .grind
 refine aa_ (λF=>?_) λF=>?_
 rotate_left
 .grind
 refine aa_ (λC=>?_) λC=>?_
 .grind
 .refine cB_ I (aa_ (λr=>?_) λr=>?_)
  .grind
  .grind
theorem nB_(A:Q (gB (ei_ x)) H):gX_ [.agg [.int .i64 x.links,.str x.content]] H Q:=by
 refine⟨1,?_⟩;rw[zJ_];unfold ei_ at A;refine hE_ (aa_ (λr=>?_) λr=>?_)
 .refine hk_ ?_;simp_all
 .grind
theorem jg_(A:Q (gB (ei_ x)) H):dz_ [.agg [.int .i64 x.links,.str x.content]] H Q:=by
 refine⟨1,?_⟩;rw[qO_];unfold ei_ at A;refine gN_ (aa_ (λr=>?_) λr=>?_)
 .grind
 .grind
theorem x0_ (V:s.size<=140737488351232) (r:Q (.tup [.a ((bD_ s).getD kC_).cells,nN (JO_ (bD_ s))]) H):jJ_ [gS s] H Q:=by
 have Y:=kZ_ s 2;refine⟨1,?_⟩;rw[Bo_];refine aa_ (λI=>?_) λI=>?_
 .have:bD_ s=none:=by unfold bD_;rw[show leI 3 (sz s)=false by simp at I ⊢;omega];rfl
  rw[this]at r;exact r
 have W:3<=s.size:=by simp at I;omega
 have A:leI 3 (sz s)=true:=by simp_all
 have N:tN 2=2:=rfl;have J:tN 1=1:=rfl;have U:tN 0=0:=rfl;have O:tN 3=3:=rfl;rw[U,J,N,O,ff_,ff_,ff_,b7_ s_ s_,b7_ o_ o_];refine ab_ s_ ?_;refine aa_ (λF=>?_) λF=>?_
 .have:bD_ s=none:=by unfold bD_;rw[show leI (3+byt s 2) (sz s)=false by simp at F ⊢;omega,A];rfl
  rw[this]at r;exact r
 have C:leI (3+byt s 2) (sz s)=true:=by simp at F ⊢;omega
 have D:(tN (3+byt s 2))<=s.size:=by simp_all
 refine ab_ s_ (ab_ s_ (ab_ s_ (ab_ s_ (ab_ (by simp at D ⊢;omega) ?_))));refine ab_ s_ (ab_ (by simp at D ⊢;omega) ?_);refine pq_ (x:=oj_ s) (Nat.le_trans (lv_ _ _ _) V) (aa_ (λG=>?_) λG=>?_)
 .have:bD_ s=none:=by unfold bD_;rw[A,C,ej_ G];rfl
  rw[this]at r;exact r
 .have:bD_ s=some (oj_ s):=by unfold bD_;rw[A,C,e3_ G];rfl
  rw[this]at r;exact r
theorem qq_ (V:s.size<=140737488351232) (r:Q (.tup [.a ((bD_ s).getD kC_).cells,nN (JO_ (bD_ s))]) H):fn_ [gS s] H Q:=by
 have Y:=kZ_ s 2;refine⟨1,?_⟩;rw[tu_];refine aa_ (λG=>?_) λG=>?_
 .have:bD_ s=none:=by unfold bD_;rw[show leI 3 (sz s)=false by simp at G ⊢;omega];rfl
  rw[this]at r;exact r
 have W:3<=s.size:=by simp at G;omega
 have A:leI 3 (sz s)=true:=by simp_all
 have N:tN 2=2:=rfl;have J:tN 1=1:=rfl;have U:tN 0=0:=rfl;have O:tN 3=3:=rfl;rw[U,J,N,O,ff_,ff_,ff_,b7_ o_ o_];refine ab_ s_ ?_;refine aa_ (λI=>?_) λI=>?_
 .have:bD_ s=none:=by unfold bD_;rw[show leI (3+byt s 2) (sz s)=false by simp at I ⊢;omega,A];rfl
  rw[this]at r;exact r
 have C:leI (3+byt s 2) (sz s)=true:=by simp_all
 have D:(tN (3+byt s 2))<=s.size:=by simp_all
 refine ab_ s_ (ab_ s_ (ab_ s_ (ab_ s_ (ab_ (by simp at D ⊢;omega) ?_))));refine ab_ s_ (ab_ (by simp at D ⊢;omega) ?_);refine jK_ (x:=oj_ s) (Nat.le_trans (lv_ _ _ _) V) (aa_ (λF=>?_) λF=>?_)
 .have:bD_ s=none:=by unfold bD_;rw[A,C,ej_ F];rfl
  rw[this]at r;exact r
 .have:bD_ s=some (oj_ s):=by unfold bD_;rw[A,C,e3_ F];rfl
  rw[this]at r;exact r
theorem wP_ (G:s.size<=140737488351232) (r:Q (.tup [.a ((cN_ s).getD yg_).cells,nN (Kj_ (cN_ s))]) H):if_ [gS s] H Q:=by
 refine⟨1,?_⟩;rw[zD_];refine aa_ (λD=>?_) λD=>?_
 .have F:s.size=0:=k7_.1 (by simp_all);have:cN_ s=none:=by unfold cN_;rw[show leI 1 (sz s)=false by simp;omega];rfl
  rw[this]at r;exact r
 have F:s.size≠0:=λz=>by rw[k7_.2 z]at D;simp at D
 have A:leI 1 (sz s)=true:=by simp;omega
 rw[show tN 0=0 from rfl,show tN 1=1 from rfl,ff_];refine ab_ s_ (ab_ s_ ?_);refine nB_ (x:=tR_ s) (aa_ (λC=>?_) λC=>?_)
 .have:cN_ s=none:=by unfold cN_;rw[A,ej_ C];rfl
  rw[this]at r;exact r
 .have:cN_ s=some (tR_ s):=by unfold cN_;rw[A,e3_ C];rfl
  rw[this]at r;exact r
theorem oU_ (G:s.size<=140737488351232) (r:Q (.tup [.a ((cN_ s).getD yg_).cells,nN (Kj_ (cN_ s))]) H):eL_ [gS s] H Q:=by
 refine⟨1,?_⟩;rw[rn_];refine aa_ (λD=>?_) λD=>?_
 .have F:s.size=0:=k7_.1 (by simp_all);have:cN_ s=none:=by unfold cN_;rw[show leI 1 (sz s)=false by simp;omega];rfl
  rw[this]at r;exact r
 have F:s.size≠0:=λz=>by rw[k7_.2 z]at D;simp at D
 have A:leI 1 (sz s)=true:=by simp;omega
 rw[show tN 0=0 from rfl,show tN 1=1 from rfl,ff_];refine ab_ s_ (ab_ s_ ?_);refine jg_ (x:=tR_ s) (aa_ (λC=>?_) λC=>?_)
 .have:cN_ s=none:=by unfold cN_;rw[A,ej_ C];rfl
  rw[this]at r;exact r
 .have:cN_ s=some (tR_ s):=by unfold cN_;rw[A,e3_ C];rfl
  rw[this]at r;exact r
end
end Go.Am
namespace Go.Am
def blt(a b:Y_):Bool:=Op.bytesLess (bs a) (bs b)
theorem hS_(a b:Y_):dJ_ a b=blt a b:=jT_ a b
def Ie_:List Y_->Bool
 |[]=>true
 |[_]=>true
 |a::b::r=>Op.bytesLess (bs a) (bs b)&&Ie_ (b::r)
theorem wZ_:∀xs:List Y_,Ie_ xs=true↔it_ xs
 |[]=>⟨λ_ i h=>absurd h t_,λ_=>rfl⟩
 |[_]=>⟨λ_ i h=>absurd h t_,λ_=>rfl⟩
 | a::b::r=>by
  have F:=wZ_ (b::r);simp[Ie_,F,<-jT_];constructor
  .rintro⟨D,C⟩ i A;cases i with
   |zero=>exact D
   |succ i=>exact C i g_
  .exact λh=>⟨h 0 t_,λi A=>h (i+1) g_⟩
def nodB:List Int->Bool
 |[]=>true
 |a::r=> !(r.contains a)&&nodB r
theorem B3_:∀xs:List Int,nodB xs=true↔xs.Nodup
 |[]=>by simp[nodB]
 |a::r=>by simp[nodB,B3_ r]
def EC_ (p:Pg):Bool:=p.used&&(Ie_ p.keys&&(p.keys.all (λk=>decide (1<=k.size)&&decide (k.size<=6))&&
 (match p.leaf with
  |true=>decide (p.vals.length=p.keys.length)&&(p.kids.isEmpty&&p.vals.all λv=>decide (v.size<=10))
  |false=>decide (1<=p.keys.length)&&(p.vals.isEmpty&&(decide (p.kids.length=p.keys.length+1)&&(p.kids.all (λk=>decide (1<=k)&&decide (k<48))&&nodB p.kids))))))
theorem E8_ (p:Pg):EC_ p=true↔iP_ p:=by
 have⟨u,l,r,A,is⟩:=p;cases l with
 |true=>
  simp[EC_,wZ_];exact⟨λh=>⟨h.1,h.2.1,h.2.2.1,λ_=>h.2.2.2,λq=>g_⟩,λh=>⟨h.used,h.rising,h.keys,h.leaf rfl⟩⟩
 |false=>
  simp[EC_,wZ_,B3_];exact⟨λh=>⟨h.1,h.2.1,h.2.2.1,λq=>g_,λ_=>h.2.2.2⟩,λh=>⟨h.used,h.rising,h.keys,h.inner rfl⟩⟩
def kE_(p:Pg):Bool:=decide (p.keys.length<=4)&&EC_ p
theorem d3_(p:Pg):kE_ p=true↔e8_ p:=by simp[kE_,e8_,E8_]
structure WS where
 met:List Bool
 deep:Nat
 count:Nat
def gi_(lo hi:Y_)(ks:List Y_):Bool:=ks.all λk=> !(blt k lo)&&(decide (hi.size=0)||blt k hi)
def loK(p:Pg)(lo:Y_)(i:Nat):Y_:=match decide (0<i) with|true=>p.keys[i-1]?.getD lo|false=>lo
def hiK(p:Pg)(hi:Y_)(i:Nat):Y_:=p.keys[i]?.getD hi
def gL_ (rec:Int->Nat->WS->Option WS):List Int->Nat->WS->Option WS
 |[],_,st=>some st
 |k::ks,i,st=>match rec k i st with
  |none=>none
  |some st'=>gL_ rec ks (i+1) st'
def okD(p:Pg)(at_:Nat)(lo hi:Y_)(st:WS):Bool:= !(st.met[at_]?.getD true)&&(kE_ p&&(!(decide (0<at_)&&decide (p.keys.length<2))&&gi_ lo hi p.keys))
def leafD (p:Pg) (deep:Nat) (st:WS):Option WS:=match decide (st.deep=0) with
 |true=>some ⟨st.met,deep,st.count+p.keys.length⟩
 |false=>match decide (st.deep=deep) with
  |true=>some ⟨st.met,deep,st.count+p.keys.length⟩
  |false=>none
def cO_ (T:List Pg):Nat->Nat->Nat->Y_->Y_->WS->Option WS
 |0,_,_,_,_,_=>none
 | f+1,at_,deep,lo,hi,st=>match T[at_]? with
  |none=>none
  | some p=>match okD p at_ lo hi st with
   |false=>none
   |true=>match p.leaf with
    |true=>leafD p deep ⟨st.met.set at_ true,st.deep,st.count⟩
    |false=>gL_ (λk i s=>cO_ T f k.toNat (deep+1) (loK p lo i) (hiK p hi i) s) p.kids 0 ⟨st.met.set at_ true,st.deep,st.count⟩
def cP_(p:Pg):Bool:= !p.used&&(!p.leaf&&(p.keys.isEmpty&&(p.vals.isEmpty&&p.kids.isEmpty)))
def hw_(T:List Pg)(met:List Bool):Bool:=(List.range T.length).all λi=>met[i]?.getD true||cP_ (T[i]?.getD noPg)
def ws0:WS:=⟨List.replicate 48 false,0,0⟩
def aK_ (T:List Pg):Nat:=match decide (T.length=48) with
 |false=>0
 | true=>match cO_ T 49 0 1 (mkS []) (mkS []) ws0 with
  |none=>0
  |some st=>match hw_ T st.met&&decide (st.count<=60) with
   |true=>st.deep
   |false=>0
def gl_(met:List Bool):Nat:=(met.filter (! ·)).length
theorem oK_:∀{met:List Bool}{i:Nat},met[i]?=some false->gl_ (met.set i true)+1=gl_ met
 |[],i,h=>by grind
 |b::met,0,h=>by simp at h;subst h;simp[gl_]
 |b::met,i+1,h=>by
  have:=oK_ (met:=met) (i:=i) g_;unfold gl_ at this ⊢;grind
theorem iS_ (T:List Pg):∀f D A lo hi st C,cO_ T f D A lo hi st=some C->gl_ C.met<=gl_ st.met/\C.met.length=st.met.length/\(1<=A->C.deep≠0)/\C.count+4*gl_ C.met<=st.count+4*gl_ st.met:=by
 intro f;induction f with
 |zero=>intro _ _ _ _ _ _ h;cases h
 | succ f ih=>
  intro D A lo hi st C h;unfold cO_ at h;cases V:T[D]? with
  |none=>rw[V]at h;cases h
  | some p=>
   rw[V]at h;dsimp at h;cases r:okD p D lo hi st with
   |false=>rw[r]at h;cases h
   | true=>
    rw[r]at h;have hm:st.met[D]?=some false:=by
     unfold okD at r;rw[kR]at r;have:=r.1;cases U:st.met[D]? with
     |none=>rw[U]at this;simp at this
     |some b=>rw[U]at this;simp at this;rw[this]
    have hu:=oK_ hm;have h4:p.keys.length<=4:=by
     unfold okD at r;simp only[kR]at r;exact ((d3_ p).1 r.2.1).1
    cases I:p.leaf with
    | true=>
     rw[I]at h;dsimp[leafD]at h;split at h
     .cases h;exact⟨by dsimp;omega,t_,λhd=>by dsimp;omega,by dsimp;omega⟩
     .split at h
      .cases h;exact⟨by dsimp;omega,t_,λhd=>by dsimp;omega,by dsimp;omega⟩
      .cases h
    | false=>
     rw[I]at h;have hk:p.kids≠[]:=by
      intro e;unfold okD at r;simp only[kR]at r;have:=((d3_ p).1 r.2.1).2.inner I;rw[e]at this;simp at this
     have key:∀G i (s F),gL_ (λk i s=>cO_ T f k.toNat (A+1) (loK p lo i) (hiK p hi i) s) G i s=some F->gl_ F.met<=gl_ s.met/\F.met.length=s.met.length/\(G≠[]\/s.deep≠0->F.deep≠0)/\F.count+4*gl_ F.met<=s.count+4*gl_ s.met:=by
      intro G;induction G with
      |nil=>intro i s F h;cases h;exact⟨kO _,rfl,λq=>by simp_all,kO _⟩
      | cons k G J=>
       intro i s F h;unfold gL_ at h;cases N:cO_ T f k.toNat (A+1) (loK p lo i) (hiK p hi i) s with
       |none=>rw[N]at h;cases h
       |some s1=>
        rw[N]at h;have⟨W,O,Z,Y⟩:=ih _ _ _ _ _ _ N;obtain⟨v1,v2,v3,v4⟩:=J _ _ _ h;omega
     obtain⟨W,O,Z,Y⟩:=key _ _ _ _ h;dsimp at W O Y;exact⟨o_,by rw[O];simp,λ_=>Z (.inl hk),o_⟩
theorem jR_ (T:List Pg) (f h r:Nat) (lo hi:Y_) (st:WS) (A:T[h]?=some p):cO_ T (f+1) h r lo hi st=(match okD p h lo hi st with
 |false=>none
 |true=>match p.leaf with
  |true=>leafD p r ⟨st.met.set h true,st.deep,st.count⟩
  |false=>gL_ (λk i s=>cO_ T f k.toNat (r+1) (loK p lo i) (hiK p hi i) s) p.kids 0 ⟨st.met.set h true,st.deep,st.count⟩):=by
 rw[cO_,A]
end Go.Am
