import Derived.Test.YtjbgjfikgpffmaaGreatM2
import Derived.OpenShut
import Derived.ShutString
import Derived.ChangeOld
import Derived.ProofKit
import Derived.WalkKit
set_option linter.all false
set_option autoImplicit true
set_option relaxedAutoImplicit true
set_option maxRecDepth 100000
namespace Go.Am
open List
open Go.Proofs.Tryz
variable{E:Nat->Sm}{k:Nat}{H:Hp}{Q:Post}{U X Y Z u w x x1 y z:Pl}{D L M N O l m n n1 o:Nat}{I g h i j:Int}{C b b1 b2 c d:Bool}{R S e r s t:ByteArray}{A a:Option Nat}{p q:List (Nat×Nat)}{F:Sm}
def aR_.cx:Cx:=⟨tys,[],[(2000000,[0])],[],[],aw_,[.tmp 6]⟩
def aR_:=fF aR_.cx f228
theorem h4_:as_ aR_.cx f228 (k+1) [nL x n 1,i,j] H Q=cf 0 (nI n) (di 0 j (leI 0 i) (chk (leN (tN i) (tN j)&&(leN (tN j) (tN (nI n))&&(leN (tN (nI n)) n&&of_ H x (tN (nI n)*1)))) (bj i j (dC Q x n 1 H) (cf 0 i (eu (leN 0 (tN i)&&(leN (tN i) n||ki_ H x (tN i*1))) (di 0 j (leN (tN j) n) (aN (cV H (shf x (tN j*1)) ((n-tN j)*1) H 9 1 16 (shf x 0) (tN i-0) (n-tN j) (λa b c=>cf 0 (nI n) (di 0 (nI b) (leN (tN (nI b)) (tN (nI n))&&(leN (tN (nI n)) b||ki_ c a (tN (nI n)*1))) (aN (clr c (shf a (tN (nI b)*1)) (tN (nI n)-tN (nI b)) [.str (mkS [])] (λc=>dC Q a b 1 c))))))))))))):=zz
theorem fs_:ao_ prog 228 (aR_):=sO eN nO func228
def di_.cx:Cx:=⟨tys,[],[],[(4,[5,6,7])],[(227,e4_)],aw_,[.cell 6 100]⟩
def di_:=fF di_.cx f246
def di_.l4 k a b c d e f g h i j l m n o p q r s t u v w x y:=aT_ (di_.cx) f246 4 k (B 5 (.bx [.bool a,.bool b,.sl c d 1,.sl e f 1,.sl g h 1]::.bx [.bool i,.bool j,.sl l m 1,.sl n o 1,.sl p q 1]::.bx [.bool r,.bool s,.sl t u 1,.sl v w 1,.sl x y 1]::B 30 []))
theorem y8_:as_ di_.cx f246 (k+1) [.agg [b,c,.sl x n 1,.sl y m 1,.sl z l 1],s,.agg [C,d,.sl u o 1,.sl w N 1,.sl X M 1]] H Q=bh e4_ [.agg [b,c,.sl x n 1,.sl y m 1,.sl z l 1]] H λa b=>ct b 1 1 1 λb e f g h i j l=>aK c (dD a 9 1 16 f g [s] (λa c f=>di_.l4 k C d u o w N X M false false none 0 none 0 none 0 b e a c h i j l f Q)) (di_.l4 k C d u o w N X M false false none 0 none 0 none 0 b e f g h i j l a Q):=zz
theorem di_.l4_eq:di_.l4 (k+1) b c x n y m z l C d u o w N X M b1 b2 Y L Z O U D H Q=aN (cV H x (n*1) H 9 1 16 Y L n (λa b c=>aN (cV c y (m*1) c 9 1 16 Z O m (λc d e=>aN (cV e z (l*1) e 3 1 8 U D l (λe f g=>en Q [b1,b2,.sl a b 1,.sl c d 1,.sl e f 1] g)))))):=zz
theorem rL_:ao_ prog 246 (di_):=sO (eZ lZ_ func227 eN) nO func246
def bH_.cx:Cx:=⟨tys,[],[],[],[],aw_,[.tmp 2]⟩
def bH_:=fF bH_.cx f269
theorem iY_:as_ bH_.cx f269 (k+1) [nL x n 1] H Q=cf 0 (nI n) (di 0 (nI n) (leN 0 (tN (nI n))&&(leN (tN (nI n)) (tN (nI n))&&(leN (tN (nI n)) n&&of_ H x (tN (nI n)*1)))) (dC Q (shf x 0) (tN (nI n)-0) 1 H)):=zz
theorem iK_:ao_ prog 269 (bH_):=sO eN nO func269
def cS_.cx:Cx:=⟨tys,[],[],[],[],aw_,[.tmp 2]⟩
def cS_:=fF cS_.cx f270
theorem lz_:as_ cS_.cx f270 (k+1) [nL x n 1] H Q=cf 0 (nI n) (di 0 (nI n) (leN 0 (tN (nI n))&&(leN (tN (nI n)) (tN (nI n))&&(leN (tN (nI n)) n&&of_ H x (tN (nI n)*1)))) (dC Q (shf x 0) (tN (nI n)-0) 1 H)):=zz
theorem ly_:ao_ prog 270 (cS_):=sO eN nO func270
def ip_.cx:Cx:=⟨tys,[],[],[],[(268,g8_),(246,di_),(269,bH_),(270,cS_)],aw_,[.cell 6 100,.tmp 7]⟩
def ip_:=fF ip_.cx f244
theorem Aa_:as_ ip_.cx f244 (k+1) [.agg [b,c,.sl x n 1,.sl y m 1,.sl z l 1],s,.agg [C,d,.sl u o 1,.sl w N 1,.sl X M 1]] H Q=dO g8_ [.agg [b,c,.sl x n 1,.sl y m 1,.sl z l 1]] H Q [.a [false,false,.sl none 0 1,.sl none 0 1,.sl none 0 1],nN 900] g8_ [.agg [C,d,.sl u o 1,.sl w N 1,.sl X M 1]] Q λa=>aK (eqB c d) (ax Q [.a [false,false,.sl none 0 1,.sl none 0 1,.sl none 0 1],nN 900] a) (bh di_ [.agg [b,c,.sl x n 1,.sl y m 1,.sl z l 1],s,.agg [C,d,.sl u o 1,.sl w N 1,.sl X M 1]] a (λa b=>ct b 1 1 1 λb c d e f g h i=>bq g8_ [.agg [b,c,.sl d e 1,.sl f g 1,.sl h i 1]] a Q [.a [false,false,.sl none 0 1,.sl none 0 1,.sl none 0 1],nN 900] λa=>aC bH_ [nL d e 1] a 1 λa d e=>aC bH_ [nL f g 1] a 1 λa f g=>aC cS_ [nL h i 1] a 1 λa h i=>ax Q [.a [b,c,.sl d e 1,.sl f g 1,.sl h i 1],nN 0] a)):=zz
theorem z4_:ao_ prog 244 (ip_):=sO (eZ t1_ func268 (eZ rL_ func246 (eZ iK_ func269 (eZ ly_ func270 eN)))) nO func244
def ca_.cx:Cx:=⟨tys,[],[(2000000,[0])],[],[],aw_,[.tmp 6]⟩
def ca_:=fF ca_.cx f245
theorem kl_:as_ ca_.cx f245 (k+1) [nL x n 1,i,j] H Q=cf 0 (nI n) (di 0 j (leI 0 i) (chk (leN (tN i) (tN j)&&(leN (tN j) (tN (nI n))&&(leN (tN (nI n)) n&&of_ H x (tN (nI n)*1)))) (bj i j (dC Q x n 1 H) (cf 0 i (eu (leN 0 (tN i)&&(leN (tN i) n||ki_ H x (tN i*1))) (di 0 j (leN (tN j) n) (aN (cV H (shf x (tN j*1)) ((n-tN j)*1) H 3 1 8 (shf x 0) (tN i-0) (n-tN j) (λa b c=>cf 0 (nI n) (di 0 (nI b) (leN (tN (nI b)) (tN (nI n))&&(leN (tN (nI n)) b||ki_ c a (tN (nI n)*1))) (aN (clr c (shf a (tN (nI b)*1)) (tN (nI n)-tN (nI b)) [.int .i64 0] (λc=>dC Q a b 1 c))))))))))))):=zz
theorem kg_:ao_ prog 245 (ca_):=sO eN nO func245
def hQ_.cx:Cx:=⟨tys,[],[],[],[(227,e4_)],aw_,[.cell 4 100,.tmp 5,.cell 6 100]⟩
def hQ_:=fF hQ_.cx f247
theorem B1_:as_ hQ_.cx f247 (k+1) [.agg [b,c,.sl x n 1,.sl y m 1,.sl z l 1],i] H Q=bC (leI 0 i&&ltI i (nI n)) x H (tN i*1) λa d e=>bh e4_ [.agg [b,c,.sl x n 1,.sl y m 1,.sl z l 1]] H λf g=>ct g 1 1 1 λg h j o p q r s=>ah f a (d+tN i*1) λt=>eqv e t (bh e4_ [.agg [b,c,.sl x n 1,.sl y m 1,.sl z l 1]] f (λb f=>ct f 1 1 1 λf l m n t u v w=>ah b a (d+tN i*1) λa=>eqv e a (cf 0 i (chk (leN 0 (tN i)&&(leN (tN i) o||ki_ b j (tN i*1))) (b1_ c (cf 0 i (eu (leN 0 (tN i)&&(leN (tN i) q||ki_ b p (tN i*1))) (di 0 i (leN (tN i) n) (cf 0 i (chk (leN (tN i) u) (ax Q [.a [g,h,.sl (shf j 0) (tN i-0) 1,.sl (shf p 0) (tN i-0) 1,.sl r s 1],e,.a [f,l,.sl (shf m (tN i*1)) (n-tN i) 1,.sl (shf t (tN i*1)) (u-tN i) 1,.sl v w 1]] b)))))) (cf 0 (ac_ .i64 (i+1)) (eu (leN 0 (tN (ac_ .i64 (i+1)))&&(leN (tN (ac_ .i64 (i+1))) s||ki_ b r (tN (ac_ .i64 (i+1))*1))) (di 0 (ac_ .i64 (i+1)) (leN (tN (ac_ .i64 (i+1))) n) (cf 0 (ac_ .i64 (i+1)) (chk (leN (tN (ac_ .i64 (i+1))) w) (ax Q [.a [g,h,.sl (shf j 0) (tN i-0) 1,.sl p q 1,.sl (shf r 0) (tN (ac_ .i64 (i+1))-0) 1],e,.a [f,l,.sl (shf m (tN (ac_ .i64 (i+1))*1)) (n-tN (ac_ .i64 (i+1))) 1,.sl t u 1,.sl (shf v (tN (ac_ .i64 (i+1))*1)) (w-tN (ac_ .i64 (i+1))) 1]] b))))))))))):=zz
theorem ua_:ao_ prog 247 (hQ_):=sO (eZ lZ_ func227 eN) nO func247
def dv_.cx:Cx:=⟨tys,[],[],[],[(244,ip_),(228,aR_),(245,ca_),(246,di_),(247,hQ_)],aw_,[]⟩
def dv_:=fF dv_.cx f229
theorem nS_:as_ dv_.cx f229 (k+1) [x,y,i] H Q=pS y λa b=>dm H a (b+4) 1 0 i i H (tN i*1) λa=>pS y λb c=>dm H b (c+4) 1 0 (ac_ .i64 (i+1)) (ac_ .i64 (i+1)) H (tN (ac_ .i64 (i+1))*1) λb=>cD x H 5 0 a a λc d=>aD H c (d+tN a*5) λe=>aD H c (d+tN a*5+1) λf=>bn H c (d+tN a*5+1+1) 1 H c (d+tN a*5+1+1+1) 1 λg h j l=>dJ H c (d+tN a*5+1+1+1+1) λc d=>eG y H 1 0 i i λm n=>ah H m (n+tN i*1) λm=>cD x H 5 0 b b λn o=>aD H n (o+tN b*5) λp=>aD H n (o+tN b*5+1) λq=>bn H n (o+tN b*5+1+1) 1 H n (o+tN b*5+1+1+1) 1 λr s t u=>dJ H n (o+tN b*5+1+1+1+1) λn o=>bf ip_ [.agg [e,f,.sl g h 1,.sl j l 1,.sl c d 1],m,.agg [p,q,.sl r s 1,.sl t u 1,.sl n o 1]] H λc d e=>ct e 1 1 1 λe f g h j l m n=>bc d λd=>bj d 0 (bw x c 5 (λd o=>bw x c 5 λp q=>bI (leI 0 a&&ltI a (nI o)) d c (tN a*5) e (tN a*5) f (tN a*5) (.sl g h 1) (tN a*5) (.sl j l 1) (tN a*5) (.sl m n 1) λa=>bI (leI 0 b&&ltI b (nI q)) p a (tN b*5) false (tN b*5) false (tN b*5) (.sl none 0 1) (tN b*5) (.sl none 0 1) (tN b*5) (.sl none 0 1) λa=>cI y a 1 λb c=>pS y λd e=>dJ a d (e+4) λf g=>aC aR_ [nL b c 1,i,ac_ .i64 (i+1)] a 1 λa b c=>cz a d (e+4) 1 (nL f g 1) (aC ca_ [nL f g 1,ac_ .i64 (i+1),ac_ .i64 (i+2)] a 1 (λa d e=>pS y λf g=>dt a f (g+2) b c 1 λa=>pS y λb c=>bt a b (c+4) (.sl d e 1) Q [])))) (cD x c 5 0 a a (λd e=>aD c d (e+tN a*5) λf=>aD c d (e+tN a*5+1) λg=>bn c d (e+tN a*5+1+1) 1 c d (e+tN a*5+1+1+1) 1 λh j l m=>dJ c d (e+tN a*5+1+1+1+1) λd e=>eG y c 1 0 i i λn o=>ah c n (o+tN i*1) λn=>cD x c 5 0 b b λo p=>aD c o (p+tN b*5) λq=>aD c o (p+tN b*5+1) λr=>bn c o (p+tN b*5+1+1) 1 c o (p+tN b*5+1+1+1) 1 λs t u v=>dJ c o (p+tN b*5+1+1+1+1) λo p=>bh di_ [.agg [f,g,.sl h j 1,.sl l m 1,.sl d e 1],n,.agg [q,r,.sl s t 1,.sl u v 1,.sl o p 1]] c λc d=>ct d 1 1 1 λd e f g h j l m=>dp x c 5 λn o p q=>pS y λr s=>dJ c r (s+2) λt u=>dp x c 5 λv w x y=>bf hQ_ [.agg [d,e,.sl f g 1,.sl h j 1,.sl l m 1],ac_ .i64 (Int.tdiv (nI g) 2)] c λc d e=>ct e 1 1 1 λe f g h j l m z=>af d λd A=>dS A λA=>aW d λd C=>ct C 1 1 1 λC D F G I J L M=>uE d (bL c v (w+0) 5 (nL x y 5) (cz c r (s+2) 1 (nL t u 1) (bL c n (o+0) 5 (nL p q 5) (bI (leI 0 a&&ltI a (nI q)) p c (tN a*5) e (tN a*5) f (tN a*5) (.sl g h 1) (tN a*5) (.sl j l 1) (tN a*5) (.sl m z 1) (λa=>aB (leI 0 i&&ltI i (nI u)) t λc d=>wr a c (d+tN i*1) A λa=>bH (leI 0 b&&ltI b (nI y)) x a (tN b*5) C (tN b*5) D (tN b*5) (.sl F G 1) (tN b*5) (.sl I J 1) λa c d=>bt d a (c+tN b*5+1+1+1+1) (.sl L M 1) Q []))))))):=zz
theorem n3_:ao_ prog 229 (dv_):=sO (eZ z4_ func244 (eZ fs_ func228 (eZ kg_ func245 (eZ rL_ func246 (eZ ua_ func247 eN))))) nO func229
def a2_.cx S:=(⟨tys,[],[],[],[(226,cx_),(228,aR_),(225,gB_),(196,S),(229,dv_)],aw_,[]⟩:Cx)
def a2_.st S:=fF (a2_.cx S) f196
theorem na_:as_ (a2_.cx F) f196 (k+1) [x,i,s] H Q=cD x H 5 0 i i λa b=>cK H a (b+tN i*5+1) (dJ H a (b+tN i*5+2) (λc d=>bz cx_ [nL c d 1,s] H λc d e=>aU d λd _=>uE d (bn c a (b+tN i*5+2) 1 c a (b+tN i*5+3) 1 (λd f g h=>aC aR_ [nL d f 1,e,ac_ .i64 (e+1)] c 1 λc d f=>cz c a (b+tN i*5+3) 1 (nL g h 1) (aC aR_ [nL g h 1,e,ac_ .i64 (e+1)] c 1 (λc e g=>aF c a (b+tN i*5+2) (.sl d f 1) a (b+tN i*5+3) (.sl e g 1) λa=>ax Q [] a)))))) (aG gB_ [.g (.ptr (some (a,b+tN i*5))),s] H (λc d=>dm c a (b+tN i*5+4) 1 0 d d c (tN d*1) λe=>cl F [x,e,s] c λ_ c=>bw x c 5 λe f=>dm c a (b+tN i*5+4) 1 0 d d c (tN d*1) λg=>aB (leI 0 g&&ltI g (nI f)) e λe f=>dJ c e (f+tN g*5+2) λ_ e=>aw (nI e) 2 (dJ c a (b+tN i*5+2) (λ_ e=>dH dv_ [x,.g (.ptr (some (a,b+tN i*5))),mnI d (ac_ .i64 (nI e-1))] c Q [])) (ax Q [] c))):=zz
theorem a2_.st_ok(S:Sm)(hS:c4_ prog 196 S):ao_ prog 196 (a2_.st S):=l8_.sound (cx:=a2_.cx S) rfl (eZ jl_ func226 (eZ fs_ func228 (eZ og_ func225 (dK_.cons hS (eZ n3_ func229 eN))))) nO func196 rfl
def a2_.at:Nat->Sm
 |0=>λ_ _ _=>False
 |n+1=>a2_.st (a2_.at n)
def a2_:Sm:=λxs H Q=>∃n,a2_.at n xs H Q
theorem a2_.at_ok:∀n,ao_ prog 196 (a2_.at n)
 |0=>λ_ _ _ h=>h.elim
 |n+1=>a2_.st_ok _ ((a2_.at_ok n).c ⟨_,func196,by kernel_rfl,by kernel_rfl⟩)
theorem oi_:ao_ prog 196 (a2_):=ao_.ex (a2_.at_ok)
def du_.cx:Cx:=⟨tys,[],[],[],[],aw_,[]⟩
def du_:=fF du_.cx f197
theorem od_:as_ du_.cx f197 (k+1) [x] H Q=bw x H 5 λa b=>bR (leI 0 0&&ltI 0 (nI b)) a H (tN 0*5) λa b _=>aD H a (b+tN 0*5+1) λc=>dJ H a (b+tN 0*5+1+1) λ_ d=>dJ H a (b+tN 0*5+1+1+1) λ_ _=>dJ H a (b+tN 0*5+1+1+1+1) λa b=>aK c (eI d 0 (bw x H 5 (λc d=>bw x H 5 λe f=>aJ (leI 0 0&&ltI 0 (nI b)) a H (tN 0*1) λg=>bw x H 5 λh i=>aJ (leI 0 0&&ltI 0 (nI b)) a H (tN 0*1) λa=>cJ (leI 0 a&&ltI a (nI i)) h H (tN a*5) H (tN a*5) H (tN a*5) 1 H (tN a*5) 1 H (tN a*5) 1 (leI 0 0&&ltI 0 (nI d)) c H (tN 0*5) (tN 0*5) (tN 0*5) (tN 0*5) (tN 0*5) λa=>bH (leI 0 g&&ltI g (nI f)) e a (tN g*5) false (tN g*5) false (tN g*5) (.sl none 0 1) (tN g*5) (.sl none 0 1) λa b c=>bt c a (b+tN g*5+1+1+1+1) (.sl none 0 1) Q [])) (ax Q [] H)) (ax Q [] H):=zz
theorem oq_:ao_ prog 197 (du_):=sO eN nO func197
def cX_.cx:Cx:=⟨tys,[25],[],[(8,[4,8,10,25])],[(194,dn_),(195,cA_),(196,a2_),(197,du_)],aw_,[.cell 4 24,.tmp 5,.tmp 6]⟩
def cX_:=fF cX_.cx f160
def cX_.l8 k a b c d e f g:=aT_ (cX_.cx) f160 8 k (B 4 (.bx [.sl a b 5]::B 3 (gB c::.bad::.g (.ptr (some (d,e)))::B 14 (.g (.ptr (some (f,g)))::B 12 []))))
theorem wL_:as_ cX_.cx f160 (k+1) [.agg [.sl x n 5],s] H Q=bF dn_ [.agg [.sl x n 5],s] H λa b _=>aU b λb c=>bc b λb=>cp b 0 Q [.a [.sl none 0 5],false,nN 1300] a (bJ cA_ [.agg [.sl x n 5]] a 5 (λa b d=>b1_ c (cl a2_ [.g (.ptr (some (ln a,0))),nN 0,s] (pu a (.row true 242 [.sl b d 5])) (λ_ b=>cl du_ [.g (.ptr (some (ln a,0)))] b λ_ b=>cX_.l8 k none 0 c (ln a) 0 (ln a) 0 b Q)) (cX_.l8 k none 0 c (ln a) 0 (ln a) 0 (pu a (.row true 242 [.sl b d 5])) Q))):=zz
theorem cX_.l8_eq:cX_.l8 (k+1) x n b m l o N H Q=aa H m (l+0) 5 λa c=>ax Q [.a [.sl a c 5],b,nN 0] H:=zz
theorem w8_:ao_ prog 160 (cX_):=sO (eZ rd_ func194 (eZ pz_ func195 (eZ oi_ func196 (eZ oq_ func197 eN)))) nO func160
def bk_.cx E:=(⟨tys,[1],[],[],[],E,[.tmp 2]⟩:Cx)
def bk_ E:=fF (bk_.cx E) f162
theorem fH_:as_ (bk_.cx E) f162 (k+1) [.g (.map a)] H Q=cN Q (.fn 200 [(ln H,0)]) (pu H (.row true 206 [.map a])):=zz
theorem fI_(E)(h:eE E):ao_ prog 162 (bk_ E):=sO eN h func162
def bM_.cx:Cx:=⟨tys,[],[(3,[3,9,10,11])],[],[],aw_,[.tmp 2]⟩
def bM_:=fF bM_.cx f204
def bM_.l3 k a b c d e:=aT_ (bM_.cx) f204 3 k (B 3 (gI a::B 5 (nL b c 5::gI d::gI e::B 12 [])))
theorem q3_:as_ bM_.cx f204 (k+1) [x] H Q=bw x H 5 λa b=>bM_.l3 k 0 a b (nI b) 0 H Q:=zz
theorem bM_.l3_eq:bM_.l3 (k+1) i x n j h H Q=aw h j (bR (leI 0 h&&ltI h (nI n)) x H (tN h*5) (λa b _=>aD H a (b+tN h*5+1) λc=>dJ H a (b+tN h*5+1+1) λ_ d=>dJ H a (b+tN h*5+1+1+1) λ_ _=>dJ H a (b+tN h*5+1+1+1+1) λ_ _=>b1_ c (bM_.l3 k (ac_ .i64 (i+nI d)) x n j (ac_ .i64 (h+1)) H Q) (bM_.l3 k i x n j (ac_ .i64 (h+1)) H Q))) (Q i H):=zz
theorem qG_:ao_ prog 204 (bM_):=sO eN nO func204
def eB_.cx:Cx:=⟨tys,[],[],[],[],aw_,[]⟩
def eB_:=fF eB_.cx f341
theorem jg_:as_ eB_.cx f341 (k+1) [x,.g (.iface 3 (.int .i64 i))] H Q=ca x H 1 λa b=>dX 3 (.iface 3 (.int .i64 i)) λc=>ai c λc=>dD H 3 1 8 a b [c] λa b c=>pS x λd e=>bt c d e (.sl a b 1) Q []:=zz
theorem pg_:ao_ prog 341 (eB_):=sO eN nO func341
def c9_.cx:Cx:=⟨tys,[],[],[],[],aw_,[.tmp 2]⟩
def c9_:=fF c9_.cx f337
theorem jX_:ao_ prog 337 (c9_):=sO eN nO func337
def cH_.cx:Cx:=⟨tys,[],[],[],[],aw_,[.tmp 6]⟩
def cH_:=fF cH_.cx f338
theorem o8_:as_ cH_.cx f338 (k+1) [nL x n 1,i,j] H Q=aJ (leI 0 i&&ltI i (nI n)) x H (tN i*1) λa=>aJ (leI 0 j&&ltI j (nI n)) x H (tN j*1) λb=>cO Q (ltI a b) H:=zz
theorem jc_:ao_ prog 338 (cH_):=sO eN nO func338
def cr_.cx:Cx:=⟨tys,[],[],[],[],aw_,[]⟩
def cr_:=fF cr_.cx f339
theorem pj_:as_ cr_.cx f339 (k+1) [nL x n 1,i,j] H Q=aJ (leI 0 j&&ltI j (nI n)) x H (tN j*1) λa=>aJ (leI 0 i&&ltI i (nI n)) x H (tN i*1) λb=>aB (leI 0 i&&ltI i (nI n)) x λc d=>wr H c (d+tN i*1) a λa=>aB (leI 0 j&&ltI j (nI n)) x λc d=>bt a c (d+tN j*1) b Q []:=zz
theorem g3_:ao_ prog 339 (cr_):=sO eN nO func339
def gh_.cx:Cx:=⟨tys,[],[(0,[0,1])],[],[(338,cH_),(339,cr_)],aw_,[]⟩
def gh_:=fF gh_.cx f234
def gh_.l0 k a b:=aT_ (gh_.cx) f234 0 k (.g (.iface 252 (.ptr a))::gI b::B 21 [])
theorem gh_.l0_eq:gh_.l0 (k+1) x i H Q=bj (ac_ .i64 (Int.tdiv (ac_ .i64 (i-1)) 2)) i (ax Q [] H) (ca x H 1 (λa b=>bq cH_ [nL a b 1,i,ac_ .i64 (Int.tdiv (ac_ .i64 (i-1)) 2)] H Q [] λa=>ca x a 1 λb c=>cl cr_ [nL b c 1,ac_ .i64 (Int.tdiv (ac_ .i64 (i-1)) 2),i] a λ_ a=>gh_.l0 k x (ac_ .i64 (Int.tdiv (ac_ .i64 (i-1)) 2)) a Q)):=zz
theorem Dd_:ao_ prog 234 (gh_):=sO (eZ jc_ func338 (eZ g3_ func339 eN)) nO func234
def h9_.cx:Cx:=⟨tys,[],[],[],[(341,eB_),(337,c9_),(234,gh_)],aw_,[]⟩
def h9_:=fF h9_.cx f205
theorem zh_:as_ h9_.cx f205 (k+1) [.g (.iface 252 (.ptr x)),.g (.iface 3 (.int .i64 i))] H Q=cl eB_ [x,.g (.iface 3 (.int .i64 i))] H λ_ a=>ca x a 1 λb c=>aG c9_ [nL b c 1] a λa b=>dH gh_ [.g (.iface 252 (.ptr x)),ac_ .i64 (b-1)] a Q []:=zz
theorem zf_:ao_ prog 205 (h9_):=sO (eZ pg_ func341 (eZ jX_ func337 (eZ Dd_ func234 eN))) nO func205
def dc_.cx:Cx:=⟨tys,[],[],[(6,[1,2,4,6])],[(283,hB_),(247,hQ_)],aw_,[.cell 2 100,.tmp 3,.cell 4 100,.tmp 5]⟩
def dc_:=fF dc_.cx f265
def dc_.l6 k a b c d e f g h i j l m n o p q r s t u v w x y z:=aT_ (dc_.cx) f265 6 k (.bad::.bx [.bool a,.bool b,.sl c d 1,.sl e f 1,.sl g h 1]::.bx [.bool i,.bool j,.sl l m 1,.sl n o 1,.sl p q 1]::.bad::.bx [.bool r,.bool s,.sl t u 1,.sl v w 1,.sl x y 1]::.bad::gI z::B 26 [])
theorem xQ_:as_ dc_.cx f265 (k+1) [.agg [b,c,.sl x n 1,.sl y m 1,.sl z l 1]] H Q=cp (nI n) 5 Q [.a [false,false,.sl none 0 1,.sl none 0 1,.sl none 0 1],mkS [],.a [false,false,.sl none 0 1,.sl none 0 1,.sl none 0 1],nN 900] H (bq hB_ [.agg [b,c,.sl x n 1,.sl y m 1,.sl z l 1]] H Q [.a [false,false,.sl none 0 1,.sl none 0 1,.sl none 0 1],mkS [],.a [false,false,.sl none 0 1,.sl none 0 1,.sl none 0 1],nN 900] (λa=>b1_ c (dc_.l6 k b c x n y m z l false false none 0 none 0 none 0 false false none 0 none 0 none 0 3 a Q) (dc_.l6 k b c x n y m z l false false none 0 none 0 none 0 false false none 0 none 0 none 0 2 a Q))):=zz
theorem dc_.l6_eq:dc_.l6 (k+1) b c x n y m z l C d u o w N X M b1 b2 Y L Z O U D i H Q=bf hQ_ [.agg [b,c,.sl x n 1,.sl y m 1,.sl z l 1],i] H λa b c=>ct c 1 1 1 λc d e f g h i j=>af b λb l=>dS l λl=>aW b λb m=>ct m 1 1 1 λm n o p q r s t=>uE b (ax Q [.a [c,d,.sl e f 1,.sl g h 1,.sl i j 1],l,.a [m,n,.sl o p 1,.sl q r 1,.sl s t 1],nN 0] a):=zz
theorem xY_:ao_ prog 265 (dc_):=sO (eZ rr_ func283 (eZ ua_ func247 eN)) nO func265
def cd_.cx:Cx:=⟨tys,[],[(2,[0,1,2,7])],[(8,[0,1,2,7,9])],[(338,cH_),(339,cr_)],aw_,[.tmp 6]⟩
def cd_:=fF cd_.cx f266
def cd_.l2 k a b c d:=aT_ (cd_.cx) f266 2 k (.g (.iface 252 (.ptr a))::gI b::gI c::B 4 (gI d::B 40 []))
def cd_.l8 k a b c d e:=aT_ (cd_.cx) f266 8 k (.g (.iface 252 (.ptr a))::gI b::gI c::B 4 (gI d::.bad::gI e::B 38 []))
theorem zy_:as_ cd_.cx f266 (k+1) [.g (.iface 252 (.ptr x)),i,j] H Q=cd_.l2 k x i j i H Q:=zz
theorem cd_.l2_eq:cd_.l2 (k+1) x i j h H Q=aZ j (ac_ .i64 (ac_ .i64 (2*h)+1)) (cO Q (ltI i h) H) (aw (ac_ .i64 (ac_ .i64 (2*h)+1)) 0 (cO Q (ltI i h) H) (aw (ac_ .i64 (ac_ .i64 (ac_ .i64 (2*h)+1)+1)) j (ca x H 1 (λa b=>ba cH_ [nL a b 1,ac_ .i64 (ac_ .i64 (ac_ .i64 (2*h)+1)+1),ac_ .i64 (ac_ .i64 (2*h)+1)] H λa b=>b1_ b (cd_.l8 k x i j h (ac_ .i64 (ac_ .i64 (ac_ .i64 (2*h)+1)+1)) a Q) (cd_.l8 k x i j h (ac_ .i64 (ac_ .i64 (2*h)+1)) a Q))) (cd_.l8 k x i j h (ac_ .i64 (ac_ .i64 (2*h)+1)) H Q))):=zz
theorem cd_.l8_eq:cd_.l8 (k+1) x i j h g H Q=ca x H 1 λa b=>ac cH_ [nL a b 1,g,h] H λa b=>aj b (cO Q (ltI i h) a) (ca x a 1 (λb c=>cl cr_ [nL b c 1,h,g] a λ_ a=>cd_.l2 k x i j g a Q)):=zz
theorem zj_:ao_ prog 266 (cd_):=sO (eZ jc_ func338 (eZ g3_ func339 eN)) nO func266
def ei_.cx:Cx:=⟨tys,[],[],[],[],aw_,[.tmp 2]⟩
def ei_:=fF ei_.cx f340
theorem pS_:as_ ei_.cx f340 (k+1) [x] H Q=ca x H 1 λ_ a=>pS x λb c=>dm H b c 1 0 (ac_ .i64 (nI a-1)) (ac_ .i64 (nI a-1)) H (tN (ac_ .i64 (nI a-1))*1) λb=>ca x H 1 λc d=>cf 0 (ac_ .i64 (nI a-1)) (chk (leN 0 (tN (ac_ .i64 (nI a-1)))&&(leN (tN (ac_ .i64 (nI a-1))) d||ki_ H c (tN (ac_ .i64 (nI a-1))*1))) (pS x (λd e=>dt H d e (shf c 0) (tN (ac_ .i64 (nI a-1))-0) 1 λa=>cN Q (.iface 3 (.int .i64 b)) a))):=zz
theorem pW_:ao_ prog 340 (ei_):=sO eN nO func340
def iU_.cx:Cx:=⟨tys,[],[],[],[(337,c9_),(339,cr_),(266,cd_),(340,ei_)],aw_,[.tmp 2]⟩
def iU_:=fF iU_.cx f239
theorem AC_:as_ iU_.cx f239 (k+1) [.g (.iface 252 (.ptr x))] H Q=ca x H 1 λa b=>aG c9_ [nL a b 1] H λa b=>ca x a 1 λc d=>cl cr_ [nL c d 1,nN 0,ac_ .i64 (b-1)] a λ_ a=>ba cd_ [.g (.iface 252 (.ptr x)),nN 0,ac_ .i64 (b-1)] a λa _=>ac ei_ [x] a λa b=>Q b a:=zz
theorem A3_:ao_ prog 239 (iU_):=sO (eZ jX_ func337 (eZ g3_ func339 (eZ zj_ func266 (eZ pW_ func340 eN)))) nO func239
def cb_.cx:Cx:=⟨tys,[],[],[],[(239,iU_)],aw_,[.tmp 4]⟩
def cb_:=fF cb_.cx f207
theorem mG_:as_ cb_.cx f207 (k+1) [x,.agg [b,c,.sl y n 1,.sl z m 1,.sl u l 1]] H Q=pS x λa d=>ac iU_ [.g (.iface 252 (.ptr (some (a,d+1))))] H λa d=>dX 3 d λd=>ai d λd=>cD x a 5 0 d d λe f=>aF a e (f+tN d*5) b e (f+tN d*5+1) c λa=>aF a e (f+tN d*5+1+1) (.sl y n 1) e (f+tN d*5+1+1+1) (.sl z m 1) λa=>dt a e (f+tN d*5+1+1+1+1) u l 1 λa=>Q d a:=zz
theorem h5_:ao_ prog 207 (cb_):=sO (eZ A3_ func239 eN) nO func207
def bS_.cx:Cx:=⟨tys,[36],[],[],[(265,dc_),(207,cb_)],aw_,[.tmp 4]⟩
def bS_:=fF bS_.cx f238
theorem lj_:as_ bS_.cx f238 (k+1) [x,i] H Q=cD x H 5 0 i i λa b=>aD H a (b+tN i*5) λc=>aD H a (b+tN i*5+1) λd=>bn H a (b+tN i*5+1+1) 1 H a (b+tN i*5+1+1+1) 1 λe f g h=>dJ H a (b+tN i*5+1+1+1+1) λa b=>bf dc_ [.agg [c,d,.sl e f 1,.sl g h 1,.sl a b 1]] H λa b c=>ct c 1 1 1 λc d e f g h j l=>af b λb m=>dS m λm=>aW b λb n=>ct n 1 1 1 λn o p q r s t u=>bc b λb=>bg b 0 (cN Q (.ptr none) a) (cD x a 5 0 i i (λb v=>aF a b (v+tN i*5) c b (v+tN i*5+1) d λa=>aF a b (v+tN i*5+1+1) (.sl e f 1) b (v+tN i*5+1+1+1) (.sl g h 1) λa=>dt a b (v+tN i*5+1+1+1+1) j l 1 λa=>aG cb_ [x,.agg [n,o,.sl p q 1,.sl r s 1,.sl t u 1]] a λa b=>cN Q (.ptr (some (ln a,0))) (pu a (.row true 257 [m,b])))):=zz
theorem hD_:ao_ prog 238 (bS_):=sO (eZ xY_ func265 (eZ h5_ func207 eN)) nO func238
def de_.cx:Cx:=⟨tys,[],[],[],[(226,cx_),(236,slices_Insert__string_string),(238,bS_)],aw_,[.tmp 8]⟩
def de_:=fF de_.cx f235
theorem mS_:as_ de_.cx f235 (k+1) [x,i,s,t] H Q=cD x H 5 0 i i λa b=>dJ H a (b+tN i*5+2) λc d=>cd cx_ [nL c d 1,s] H λc d e=>b1_ e (cQ c a (b+tN i*5+3) 1 0 d d (λa b=>wr c a (b+tN d*1) t λa=>cN Q (.ptr none) a)) (bn c a (b+tN i*5+2) 1 c a (b+tN i*5+3) 1 (λe f g h=>aC slices_Insert__string_string [nL e f 1,d,nL (some (ln c,0)) 1 1] (pu c (.row false 1000003 [s])) 1 λc e f=>cz c a (b+tN i*5+3) 1 (nL g h 1) (aC slices_Insert__string_string [nL g h 1,d,nL (some (ln c,0)) 1 1] (pu c (.row false 1000003 [t])) 1 (λc d g=>aF c a (b+tN i*5+2) (.sl e f 1) a (b+tN i*5+3) (.sl d g 1) λa=>ac bS_ [x,i] a λa b=>dP b λb=>Q b a)))):=zz
theorem mI_:ao_ prog 235 (de_):=sO (eZ jl_ func226 (dK_.cons (fr_) (eZ hD_ func238 eN))) nO func235
def a4_.cx S:=(⟨tys,[],[],[],[(235,de_),(225,gB_),(206,S),(236,slices_Insert__string_string),(237,slices_Insert__int_int),(238,bS_)],aw_,[.tmp 8]⟩:Cx)
def a4_.st S:=fF (a4_.cx S) f206
theorem nk_:as_ (a4_.cx F) f206 (k+1) [x,i,s,t] H Q=cD x H 5 0 i i λa b=>cK H a (b+tN i*5+1) (ac de_ [x,i,s,t] H (λa b=>dP b λb=>Q b a)) (aG gB_ [.g (.ptr (some (a,b+tN i*5))),s] H (λc d=>dm c a (b+tN i*5+4) 1 0 d d c (tN d*1) λe=>ac F [x,e,s,t] c λc e=>dP e λe=>b1_ (isNone e) (cN Q (.ptr none) c) (dJ c a (b+tN i*5+2) (λf g=>pS e λh j=>ah c h (j+0) λh=>dJ c a (b+tN i*5+4) λj l=>pS e λe m=>aq c e (m+1) λn=>aC slices_Insert__string_string [nL f g 1,d,nL (some (ln c,0)) 1 1] (pu c (.row false 1000003 [h])) 1 λc f g=>aq c e (m+1) λe=>eqv n e (cz c a (b+tN i*5+4) 1 (nL j l 1) (aC slices_Insert__int_int [nL j l 1,ac_ .i64 (d+1),nL (some (ln c,0)) 1 1] (pu c (.row false 1000003 [n])) 1 (λc d e=>aF c a (b+tN i*5+2) (.sl f g 1) a (b+tN i*5+4) (.sl d e 1) λa=>ac bS_ [x,i] a λa b=>dP b λb=>Q b a))))))):=zz
theorem a4_.st_ok(S:Sm)(hS:c4_ prog 206 S):ao_ prog 206 (a4_.st S):=l8_.sound (cx:=a4_.cx S) rfl (eZ mI_ func235 (eZ og_ func225 (dK_.cons hS (dK_.cons (fr_) (dK_.cons (kh_) (eZ hD_ func238 eN)))))) nO func206 rfl
def a4_.at:Nat->Sm
 |0=>λ_ _ _=>False
 |n+1=>a4_.st (a4_.at n)
def a4_:Sm:=λxs H Q=>∃n,a4_.at n xs H Q
theorem a4_.at_ok:∀n,ao_ prog 206 (a4_.at n)
 |0=>λ_ _ _ h=>h.elim
 |n+1=>a4_.st_ok _ ((a4_.at_ok n).c ⟨_,func206,by kernel_rfl,by kernel_rfl⟩)
theorem nb_:ao_ prog 206 (a4_):=ao_.ex (a4_.at_ok)
def br_.cx:Cx:=⟨tys,[3,48,92,98],[(8,[1,2,6,11,48,52,53,54])],[],[(201,d5_),(202,dm_),(203,cn_),(194,dn_),(204,bM_),(195,cA_),(205,h9_),(206,a4_),(207,cb_)],aw_,[.cell 6 24,.tmp 7]⟩
def br_:=fF br_.cx f163
def br_.l8 k a b c d e f g h i j l m:=aT_ (br_.cx) f163 8 k (.bad::gS a::gS b::B 3 (.bx [.sl c d 5]::B 4 (.g (.ptr (some (e,f)))::B 36 (.g (.ptr (some (g,h)))::B 3 (nL i j 5::gI l::gI m::B 51 [])))))
theorem tp_:as_ br_.cx f163 (k+1) [.agg [.sl x n 5],s,t] H Q=aa (pu H (.row true 24 [.sl x n 5])) (ln H) 0 5 λa b=>dO d5_ [.agg [.sl a b 5]] (pu H (.row true 24 [.sl x n 5])) Q [.a [.sl none 0 5],nN 1200] dm_ [s] Q λa=>bq cn_ [t] a Q [.a [.sl none 0 5],nN 1200] λa=>aa a (ln H) 0 5 λb c=>bF dn_ [.agg [.sl b c 5],s] a λa b _=>aU b λb c=>aX b (aK c (aG bM_ [.g (.ptr (some (ln H,0)))] a (λa b=>dR 60 b Q [.a [.sl none 0 5],nN 1201] a (aa a (ln H) 0 5 (λb c=>bJ cA_ [.agg [.sl b c 5]] a 5 λa b c=>aa (pu a (.row true 250 [.sl b c 5,.sl none 0 1])) (ln a) 0 5 λd e=>br_.l8 k s t none 0 (ln a) 0 (ln a) 0 d e (nI e) 0 (pu a (.row true 250 [.sl b c 5,.sl none 0 1])) Q)))) (aa a (ln H) 0 5 (λb c=>bJ cA_ [.agg [.sl b c 5]] a 5 λa b c=>aa (pu a (.row true 250 [.sl b c 5,.sl none 0 1])) (ln a) 0 5 λd e=>br_.l8 k s t none 0 (ln a) 0 (ln a) 0 d e (nI e) 0 (pu a (.row true 250 [.sl b c 5,.sl none 0 1])) Q))):=zz
theorem br_.l8_eq:br_.l8 (k+1) s t x n m l o N y M i j H Q=aw j i (bT (leI 0 j&&ltI j (nI M)) y H (tN j*5) H (tN j*5) (λa b c _=>dJ H a (b+tN j*5+1+1) λ_ _=>dJ H a (b+tN j*5+1+1+1) λ_ _=>dJ H a (b+tN j*5+1+1+1+1) λ_ _=>aK c (cl h9_ [.g (.iface 252 (.ptr (some (m,l+1)))),.g (.iface 3 (.int .i64 j))] H (λ_ a=>br_.l8 k s t x n m l o N y M i (ac_ .i64 (j+1)) a Q)) (br_.l8 k s t x n m l o N y M i (ac_ .i64 (j+1)) H Q))) (ac a4_ [.g (.ptr (some (m,l))),nN 0,s,t] H (λa b=>dP b λb=>aK (isNone b) (aa a m (l+0) 5 (λc d=>bV (leI 0 0&&ltI 0 (nI d)) c a (tN 0*5) a (tN 0*5) a (tN 0*5) 1 a (tN 0*5) 1 a (tN 0*5) 1 λc d e f g h i j=>aG cb_ [.g (.ptr (some (m,l))),.agg [c,d,.sl e f 1,.sl g h 1,.sl i j 1]] a λa c=>aa a m (l+0) 5 λd e=>pS b λf g=>ah a f (g+0) λh=>pS b λb i=>aq a b (i+1) λj=>Hv_ (aq (pu a (.row true 9 [h])) b (i+1) (λb=>eqv j b (bL (pu a (.row true 9 [h])) m (l+0) 5 (nL d e 5) (ah (pu (pu a (.row true 9 [h])) (.row true 3 [c,j])) f (g+0) (λb=>eqv h b (bL (pu (pu a (.row true 9 [h])) (.row true 3 [c,j])) m (l+0) 5 (nL d e 5) (bI (leI 0 0&&ltI 0 (nI e)) d (pu (pu a (.row true 9 [h])) (.row true 3 [c,j])) (tN 0*5) true (tN 0*5) false (tN 0*5) (.sl (some (ln a,0)) 1 1) (tN 0*5) (.sl none 0 1) (tN 0*5) (.sl (some (ln (pu a (.row true 9 [.str h])),0)) 2 1) (λa=>dU a m (l+0) 5 Q (nN 0) a)))))))) (ah (pu a (.row true 3 [c,j])) f (g+0) (λf=>eqv h f (bL (pu a (.row true 3 [c,j])) m (l+0) 5 (nL d e 5) (aq (pu (pu a (.row true 3 [c,j])) (.row true 9 [h])) b (i+1) (λb=>eqv j b (bL (pu (pu a (.row true 3 [c,j])) (.row true 9 [h])) m (l+0) 5 (nL d e 5) (bI (leI 0 0&&ltI 0 (nI e)) d (pu (pu a (.row true 3 [c,j])) (.row true 9 [h])) (tN 0*5) true (tN 0*5) false (tN 0*5) (.sl (some (ln (pu a (.row true 3 [.int .i64 c,.int .i64 j])),0)) 1 1) (tN 0*5) (.sl none 0 1) (tN 0*5) (.sl (some (ln a,0)) 2 1) (λa=>dU a m (l+0) 5 Q (nN 0) a)))))))))) (dU a m (l+0) 5 Q (nN 0) a))):=zz
theorem tm_:ao_ prog 163 (br_):=sO (eZ jI_ func201 (eZ kH_ func202 (eZ iw_ func203 (eZ rd_ func194 (eZ qG_ func204 (eZ pz_ func195 (eZ zf_ func205 (eZ nb_ func206 (eZ h5_ func207 eN))))))))) nO func163
def aN_.cx E:=(⟨tys,[],[(5,[2,3,4,7,28,29,30]),(13,[2,3,4,7,59,60,61])],[],[(159,ap_),(130,h1_),(160,cX_),(162,(bk_ E)),(161,slices_Sorted_string),(163,br_)],E,[.cell 2 24]⟩:Cx)
def aN_ E:=fF (aN_.cx E) f115
def aN_.l5 E k a b c d e f g h i j:=aT_ (aN_.cx E) f115 5 k (.bad::.bad::.bx [.sl a b 5]::.bx [.sl c d 5]::gM e::.bad::.bad::gM f::B 20 (nL g h 2::gI i::gI j::B 60 []))
def aN_.l13 E k a b c d e f g h i j:=aT_ (aN_.cx E) f115 13 k (.bad::.bad::.bx [.sl a b 5]::.bx [.sl c d 5]::gM e::.bad::.bad::gM f::B 51 (nL g h 1::gI i::gI j::B 29 []))
theorem oZ_:as_ (aN_.cx E) f115 (k+1) [x] H Q=dp x H 5 λa b c d=>ac ap_ [x] H λe f=>dM f λf=>aa e a (b+0) 5 λa b=>eqv (.agg [.sl c d 5]) (.agg [.sl a b 5]) (bM h1_ [.agg [.sl c d 5]] e 2 (λa b e g=>aX b (aN_.l5 E k none 0 c d f (some (ln a)) e g (nI g) 0 (pu a (.map [] 0)) Q))):=zz
theorem aN_.l5_eq:aN_.l5 E (k+1) x n y m a A z l i j H Q=aw j i (bC (leI 0 j&&ltI j (nI l)) z H (tN j*2) (λb c d=>ah H b (c+tN j*2+1) λb=>dA H A [.str] d b λb=>cT b a [.str] d (mkS []) λc e=>dh c λ_=>aK e (bN cX_ [.agg [.sl y m 5],d] b 5 (λb c d e=>aU c λc _=>aX c (aN_.l5 E k x n d e a A z l i (ac_ .i64 (j+1)) b Q))) (aN_.l5 E k x n y m a A z l i (ac_ .i64 (j+1)) b Q))) (ac (bk_ E) [.g (.map a)] H (λb c=>aC slices_Sorted_string [c] b 1 λb c d=>aN_.l13 E k x n y m a A c d (nI d) 0 b Q)):=zz
theorem aN_.l13_eq:aN_.l13 E (k+1) x n y m a A z l i j H Q=aw j i (aH (leI 0 j&&ltI j (nI l)) z H (tN j*1) (λb=>cT H A [.str] b (mkS []) λc d=>dh c λc=>aK d (cT H a [.str] b (mkS []) (λc _=>dh c λc=>dz br_ [.agg [.sl y m 5],b,c] H 5 λb c d=>aN_.l13 E k x n c d a A z l i (ac_ .i64 (j+1)) b Q)) (cT H a [.str] b (mkS []) (λd _=>dh d λd=>dw c d (cT H a [.str] b (mkS []) (λc _=>dh c λc=>dz br_ [.agg [.sl y m 5],b,c] H 5 λb c d=>aN_.l13 E k x n c d a A z l i (ac_ .i64 (j+1)) b Q)) (aN_.l13 E k x n y m a A z l i (ac_ .i64 (j+1)) H Q))))) (en Q [.sl y m 5] H):=zz
theorem o4_(E)(h:eE E):ao_ prog 115 (aN_ E):=sO (eZ lH_ func159 (eZ tL_ func130 (eZ w8_ func160 (eZ (fI_ E h) func162 (dK_.cons (fD_) (eZ tm_ func163 eN)))))) h func115
def fS_.cx E:=(⟨tys,[],[],[],[(78,(dJ_ E)),(113,dT_),(114,bw_),(115,(aN_ E))],E,[.cell 6 24,.tmp 7]⟩:Cx)
def fS_ E:=fF (fS_.cx E) f58
theorem xB_:as_ (fS_.cx E) f58 (k+1) [.agg [.sl x n 5],.g (.fn m p),.g (.fn l q)] H Q=dl (dJ_ E) [.agg [.sl x n 5]] H λa b c=>d9 b (ax Q [.a [.sl none 0 5],nN 2000] a) (co c a 5 (λb d=>aG (E m) (cpl [.g (.sl b d 5)] p) a λa b=>cp b 0 Q [.a [.sl none 0 5],b] a (cl (E l) (cpl [.g (.ptr c)] q) a (λ_ a=>aG dT_ [c] a λa b=>aw 60 b (dl (dJ_ E) [.agg [.sl x n 5]] a (λa b c=>aU b λb _=>uE b (cl bw_ [c] a (λ_ a=>cl (E l) (cpl [.g (.ptr c)] q) a λ_ a=>bK (aN_ E) [c] a 5 Q (nN 0))))) (bK (aN_ E) [c] a 5 Q (nN 0)))))):=zz
theorem pv_(E)(h:eE E):ao_ prog 58 (fS_ E):=sO (eZ (tR_ E h) func78 (eZ oT_ func113 (eZ nn_ func114 (eZ (o4_ E h) func115 eN)))) h func58
def bN_.cx:Cx:=⟨tys,[],[],[],[],aw_,[.tmp 2]⟩
def bN_:=fF bN_.cx f221
theorem ht_:as_ bN_.cx f221 (k+1) [nL x n 5] H Q=b1_ (isNone x) (dC Q none 0 5 H) (aN (dG H x (n*5) H 52 5 80 n (λa=>dC Q (some (ln H,0)) n 5 a))):=zz
theorem hj_:ao_ prog 221 (bN_):=sO eN nO func221
def bB_.cx:Cx:=⟨tys,[],[],[],[],aw_,[.tmp 2]⟩
def bB_:=fF bB_.cx f137
theorem hq_:as_ bB_.cx f137 (k+1) [nL x n 3] H Q=b1_ (isNone x) (dC Q none 0 3 H) (aN (dG H x (n*3) H 108 3 40 n (λa=>dC Q (some (ln H,0)) n 3 a))):=zz
theorem hk_:ao_ prog 137 (bB_):=sO eN nO func137
def cj_.cx:Cx:=⟨tys,[],[(3,[3,8,9])],[],[(221,bN_),(137,bB_)],aw_,[.tmp 2]⟩
def cj_:=fF cj_.cx f181
def cj_.l3 k a b c d:=aT_ (cj_.cx) f181 3 k (B 3 (nL a b 5::B 4 (gI c::gI d::B 14 [])))
theorem v6_:as_ cj_.cx f181 (k+1) [nL x n 5] H Q=aC bN_ [nL x n 5] H 5 λa b c=>cj_.l3 k b c (nI c) 0 a Q:=zz
theorem cj_.l3_eq:cj_.l3 (k+1) x n i j H Q=aw j i (bW (leI 0 j&&ltI j (nI n)) x H (tN j*5) 3 (λa b=>aC bB_ [nL a b 3] H 3 λa b c=>aB (leI 0 j&&ltI j (nI n)) x λd e=>dt a d (e+tN j*5+4) b c 3 λa=>cj_.l3 k x n i (ac_ .i64 (j+1)) a Q)) (dC Q x n 5 H):=zz
theorem wI_:ao_ prog 181 (cj_):=sO (eZ hj_ func221 (eZ hk_ func137 eN)) nO func181
def cl_.cx:Cx:=⟨tys,[],[(4,[0,11,12,13])],[],[(135,bx_),(103,cU_),(181,cj_)],aw_,[.tmp 4,.tmp 5]⟩
def cl_:=fF cl_.cx f136
def cl_.l4 k a b c d e f:=aT_ (cl_.cx) f136 4 k (nL a b 5::B 10 (nL c d 1::gI e::gI f::B 9 []))
theorem us_:as_ cl_.cx f136 (k+1) [nL x n 5,nL y m 1] H Q=bq bx_ [nL x n 5] H Q [.s (.sl none 0 5),nN 1900] λa=>cl_.l4 k x n y m (nI m) 0 a Q:=zz
theorem cl_.l4_eq:cl_.l4 (k+1) x n y m i j H Q=aw j i (aH (leI 0 j&&ltI j (nI m)) y H (tN j*1) (λa=>bq cU_ [a] H Q [.s (.sl none 0 5),nN 1901] λa=>cl_.l4 k x n y m i (ac_ .i64 (j+1)) a Q)) (aV cj_ [nL x n 5] H 5 Q (nN 0)):=zz
theorem uq_:ao_ prog 136 (cl_):=sO (eZ pn_ func135 (eZ f5_ func103 (eZ wI_ func181 eN))) nO func136
def fU_.cx:Cx:=⟨tys,[],[],[],[(136,cl_),(104,fE_)],aw_,[.tmp 4,.tmp 5,.tmp 6]⟩
def fU_:=fF fU_.cx f142
theorem uR_:as_ fU_.cx f142 (k+1) [nL x n 5,nL y m 1] H Q=bM cl_ [nL x n 5,nL y m 1] H 5 λa b c d=>bc b λb=>cp b 0 Q [.s (.sl none 0 5),nN 0,b] a (aH (leI 0 0&&ltI 0 (nI m)) y a (tN 0*1) (λb=>cd fE_ [nL c d 5,b] a λa b e=>aK e (ax Q [.s (.sl none 0 5),nN 0,nN 1903] a) (ax Q [.s (.sl c d 5),b,nN 0] a))):=zz
theorem uJ_:ao_ prog 142 (fU_):=sO (eZ uq_ func136 (eZ lI_ func104 eN)) nO func142
def fc_.cx:Cx:=⟨tys,[],[],[],[(142,fU_),(49,dd_)],aw_,[.tmp 6,.tmp 7,.tmp 8]⟩
def fc_:=fF fc_.cx f110
theorem vT_:as_ fc_.cx f110 (k+1) [nL x n 5,s,t] H Q=bM fU_ [nL x n 5,nL (some (ln H,0)) 1 1] (pu H (.row false 1000003 [s])) 5 λa b c d=>ay b λb e=>bc b λb=>cp b 0 Q [.s (.sl none 0 5),.s (.ptr none),b] a (bZ (leI 0 e&&ltI e (nI d)) c a (tN e*5) (λb=>cp b 0 Q [.s (.sl none 0 5),.s (.ptr none),nN 1905] a (bq dd_ [t] a Q [.s (.sl none 0 5),.s (.ptr none),nN 1907] (λa=>aB (leI 0 e&&ltI e (nI d)) c λb f=>ax Q [.s (.sl c d 5),.s (.ptr (some (b,f+tN e*5))),nN 0] a)))):=zz
theorem nv_:ao_ prog 110 (fc_):=sO (eZ uJ_ func142 (eZ he_ func49 eN)) nO func110
def b9_.cx:Cx:=⟨tys,[],[],[(11,[2,3,10,11,13])],[(110,fc_),(111,ds_),(50,cF_),(112,slices_Insert__api_File_api_File)],aw_,[.tmp 8,.tmp 9]⟩
def b9_:=fF b9_.cx f57
def b9_.l11 k a b c d e f:=aT_ (b9_.cx) f57 11 k (.bad::.bad::gS a::gS b::B 6 (nL c d 5::gP e::.bad::gI f::B 59 []))
theorem ue_:as_ b9_.cx f57 (k+1) [nL x n 5,s,t,r] H Q=bM fc_ [nL x n 5,s,t] H 5 λa b c d=>af b λb e=>dP e λe=>cP b 0 Q (.s (.sl none 0 5)) a (bq ds_ [r] a Q [.s (.sl none 0 5),nN 1909] (λa=>co e a 3 λb f=>cd cF_ [nL b f 3,t] a λa b f=>aK f (co e a 3 (λ_ g=>eI g 4 (ax Q [.s (.sl none 0 5),nN 1910] a) (aK f (co e a 3 (λf g=>aC slices_Insert__api_File_api_File [nL f g 3,b,nL (some (ln a,0)) 1 3] (pu a (.row false 1000003 [mkS [],mkS [],false])) 3 λa f g=>pS e λh i=>dt a h (i+4) f g 3 λa=>b9_.l11 k t r c d e b a Q)) (b9_.l11 k t r c d e b a Q)))) (aK f (co e a 3 (λf g=>aC slices_Insert__api_File_api_File [nL f g 3,b,nL (some (ln a,0)) 1 3] (pu a (.row false 1000003 [mkS [],mkS [],false])) 3 λa f g=>pS e λh i=>dt a h (i+4) f g 3 λa=>b9_.l11 k t r c d e b a Q)) (b9_.l11 k t r c d e b a Q)))):=zz
theorem b9_.l11_eq:b9_.l11 (k+1) s t x n y i H Q=pS y λa b=>cQ H a (b+4) 3 0 i i λa b=>aF H a (b+tN i*3) s a (b+tN i*3+1) t λc=>bt c a (b+tN i*3+1+1) true Q [.s (.sl x n 5),nN 0]:=zz
theorem uF_:ao_ prog 57 (b9_):=sO (eZ nv_ func110 (eZ in_ func111 (eZ gT_ func50 (dK_.cons (ey_) eN)))) nO func57
def fm_.cx:Cx:=⟨tys,[],[],[],[(57,b9_)],aw_,[.tmp 5]⟩
def fm_:=fF fm_.cx f56
theorem tz_:as_ fm_.cx f56 (k+1) [nL x n 5,.g (.ptr (some (m,l))),.g (.ptr (some (o,N))),.g (.ptr (some (M,L)))] H Q=cA H m l H o N λa b=>ah H M L λc=>bM b9_ [nL x n 5,a,b,c] H 5 λa b _ _=>bc b λb=>Q b a:=zz
theorem tc_:ao_ prog 56 (fm_):=sO (eZ uF_ func57 eN) nO func56
def cV_.cx E:=(⟨tys,[],[(2,[0,3])],[],[],E,[.tmp 2]⟩:Cx)
def cV_ E:=fF (cV_.cx E) f139
def cV_.l2 E k a b c:=aT_ (cV_.cx E) f139 2 k (.g (.fn a b)::.bad::.bad::gI c::B 6 [])
theorem vQ_:as_ (cV_.cx E) f139 (k+1) [.g (.fn n p)] H Q=cV_.l2 E k n p 1 H Q:=zz
theorem cV_.l2_eq:cV_.l2 E (k+1) n p i H Q=ba (E n) (cpl [.g (.int .i64 i)] p) H λa b=>b1_ b (cV_.l2 E k n p (ac_ .i64 (i+1)) a Q) (Q i a):=zz
theorem wb_(E)(h:eE E):ao_ prog 139 (cV_ E):=sO eN h func139
def cR_.cx:Cx:=⟨tys,[],[],[],[],aw_,[.tmp 3]⟩
def cR_:=fF cR_.cx f164
theorem k4_:as_ cR_.cx f164 (k+1) [i,.g (.ptr (some (n,m)))] H Q=rd H n m λa=>dP a λa=>bv a H λa=>cT H a [.int .i64] i (.a [nN 0,mkS []]) λa b=>bk a λa _=>cR a (Q b H):=zz
theorem lc_:ao_ prog 164 (cR_):=sO eN nO func164
def dg_.cx:Cx:=⟨tys,[1],[],[],[(139,(cV_ (cO_ [(164,cR_)])))],aw_,[.tmp 2]⟩
def dg_:=fF dg_.cx f117
theorem mJ_:as_ dg_.cx f117 (k+1) [x] H Q=aG (cV_ (cO_ [(164,cR_)])) [.g (.fn 164 [(ln H,0)])] (pu H (.row true 115 [x])) λa b=>Q b a:=zz
theorem mF_:ao_ prog 117 (dg_):=sO (dK_.cons ((wb_ (cO_ [(164,cR_)]) (gw_ (eZ lc_ func164 eN))).c ⟨_,func139,by kernel_rfl,by kernel_rfl⟩) eN) nO func117
def dN_.cx:Cx:=⟨tys,[],[],[],[],aw_,[]⟩
def dN_:=fF dN_.cx f84
theorem o9_:as_ dN_.cx f84 (k+1) [x,.agg [i,s],.agg [j,b]] H Q=bv x H λa=>dK H a [.int .i64] j (.a [nN 0,mkS []]) λa c=>cM a λa=>bv x H λd=>bO x H λe=>Dq_ H d false [.int .i64] j (.a [nN 0,mkS []]) λf g h=>bk f λf _=>cR f (B0_ h d (nI g) (.a [ac_ .i64 (c+1),a]) (λa=>Dq_ a e true [.int .i64,.str] (.a [i,s]) (.a [nN 0,false]) λa c d=>bk a λa _=>d6 a (B0_ d e (nI c) (.a [j,b]) (λa=>ax Q [] a)))):=zz
theorem o7_:ao_ prog 84 (dN_):=sO eN nO func84
def bq_.cx:Cx:=⟨tys,[],[],[(4,[0,3,8])],[(116,bX_),(117,dg_),(84,dN_)],aw_,[]⟩
def bq_:=fF bq_.cx f60
def bq_.l4 k a b c d:=aT_ (bq_.cx) f60 4 k (gP a::.bad::.bad::gS b::B 4 (.bx [.int .i64 c,.str d]::B 39 []))
theorem ok_:as_ bq_.cx f60 (k+1) [x,s,t,r] H Q=bP x H λa=>dK H a [.str] s (.a [nN 0,nN 0,mkS [],mkS []]) λa b=>d7 a λa _=>cR a (bO x H (λa=>sy_ H a true [.int .i64,.str] (.a [b,t]) (.a [nN 0,false]) λa c=>bk a λa _=>d6 a (b1_ c (cl bX_ [x,.agg [b,t]] H (λ_ a=>bq_.l4 k x r b t a Q)) (bq_.l4 k x r b t H Q)))):=zz
theorem bq_.l4_eq:bq_.l4 (k+1) x s i t H Q=aG dg_ [x] H λa b=>bv x a λc=>dA a c [.int .i64] b (.a [nN 0,s]) λa=>dH dN_ [x,.agg [i,t],.agg [b,true]] a Q []:=zz
theorem nr_:ao_ prog 60 (bq_):=sO (eZ f7_ func116 (eZ mF_ func117 (eZ o7_ func84 eN))) nO func60
def fn_.cx:Cx:=⟨tys,[],[],[],[(60,bq_)],aw_,[]⟩
def fn_:=fF fn_.cx f59
theorem sO_:as_ fn_.cx f59 (k+1) [x,.g (.ptr (some (n,m))),.g (.ptr (some (l,o))),.g (.ptr (some (N,M)))] H Q=cA H n m H l o λa b=>ah H N M λc=>dH bq_ [x,a,b,c] H Q []:=zz
theorem tx_:ao_ prog 59 (fn_):=sO (eZ nr_ func60 eN) nO func59
def dB_.cx:Cx:=⟨tys,[5,6,7],[],[],[(58,(fS_ (cO_ [(56,fm_),(59,fn_)])))],aw_,[.cell 8 24,.tmp 9]⟩
def dB_:=fF dB_.cx f17
theorem vp_:as_ dB_.cx f17 (k+1) [.agg [.sl x n 5],s,t,r] H Q=eH (fS_ (cO_ [(56,fm_),(59,fn_)])) [.agg [.sl x n 5],.g (.fn 56 [(ln H,0),(ln (pu H (.row true 9 [.str s])),0),(ln (pu (pu H (.row true 9 [.str s])) (.row true 9 [.str t])),0)]),.g (.fn 59 [(ln H,0),(ln (pu H (.row true 9 [.str s])),0),(ln (pu (pu H (.row true 9 [.str s])) (.row true 9 [.str t])),0)])] (pu (pu (pu H (.row true 9 [s])) (.row true 9 [t])) (.row true 9 [r])) 5 λa b c d=>ax Q [.a [.sl b c 5],d] a:=zz
theorem om_:ao_ prog 17 (dB_):=sO (dK_.cons ((pv_ (cO_ [(56,fm_),(59,fn_)]) (gw_ (eZ tc_ func56 (eZ tx_ func59 eN)))).c ⟨_,func58,by kernel_rfl,by kernel_rfl⟩) eN) nO func17
def bv_.cx:Cx:=⟨tys,[],[(2000000,[0])],[],[],aw_,[.tmp 6]⟩
def bv_:=fF bv_.cx f118
theorem ha_:as_ bv_.cx f118 (k+1) [nL x n 3,i,j] H Q=cf 0 (nI n) (di 0 j (leI 0 i) (chk (leN (tN i) (tN j)&&(leN (tN j) (tN (nI n))&&(leN (tN (nI n)) n&&of_ H x (tN (nI n)*3)))) (bj i j (dC Q x n 3 H) (cf 0 i (eu (leN 0 (tN i)&&(leN (tN i) n||ki_ H x (tN i*3))) (di 0 j (leN (tN j) n) (aN (cV H (shf x (tN j*3)) ((n-tN j)*3) H 108 3 40 (shf x 0) (tN i-0) (n-tN j) (λa b c=>cf 0 (nI n) (di 0 (nI b) (leN (tN (nI b)) (tN (nI n))&&(leN (tN (nI n)) b||ki_ c a (tN (nI n)*3))) (aN (clr c (shf a (tN (nI b)*3)) (tN (nI n)-tN (nI b)) [.str (mkS []),.str (mkS []),.bool false] (λc=>dC Q a b 3 c))))))))))))):=zz
theorem g7_:ao_ prog 118 (bv_):=sO eN nO func118
def fo_.cx:Cx:=⟨tys,[],[],[],[(110,fc_),(50,cF_),(118,bv_)],aw_,[.tmp 6,.tmp 7]⟩
def fo_:=fF fo_.cx f62
theorem sf_:as_ fo_.cx f62 (k+1) [nL x n 5,s,t] H Q=bM fc_ [nL x n 5,s,t] H 5 λa b c d=>af b λb e=>dP e λe=>cP b 0 Q (.s (.sl none 0 5)) a (co e a 3 (λb f=>cd cF_ [nL b f 3,t] a λa b f=>aK f (ax Q [.s (.sl none 0 5),nN 1908] a) (co e a 3 (λf g=>aC bv_ [nL f g 3,b,ac_ .i64 (b+1)] a 3 λa b f=>pS e λe g=>bt a e (g+4) (.sl b f 3) Q [.s (.sl c d 5),nN 0])))):=zz
theorem r7_:ao_ prog 62 (fo_):=sO (eZ nv_ func110 (eZ gT_ func50 (eZ g7_ func118 eN))) nO func62
def eG_.cx:Cx:=⟨tys,[],[],[],[(62,fo_)],aw_,[.tmp 4]⟩
def eG_:=fF eG_.cx f61
theorem q1_:as_ eG_.cx f61 (k+1) [nL x n 5,.g (.ptr (some (m,l))),.g (.ptr (some (o,N)))] H Q=cA H m l H o N λa b=>bM fo_ [nL x n 5,a,b] H 5 λa b _ _=>bc b λb=>Q b a:=zz
theorem qx_:ao_ prog 61 (eG_):=sO (eZ r7_ func62 eN) nO func61
def df_.cx:Cx:=⟨tys,[],[],[],[(116,bX_)],aw_,[]⟩
def df_:=fF df_.cx f64
theorem m4_:as_ df_.cx f64 (k+1) [x,s,t] H Q=bP x H λa=>dK H a [.str] s (.a [nN 0,nN 0,mkS [],mkS []]) λa b=>d7 a λa _=>cR a (dH bX_ [x,.agg [b,t]] H Q []):=zz
theorem m5_:ao_ prog 64 (df_):=sO (eZ f7_ func116 eN) nO func64
def eT_.cx:Cx:=⟨tys,[],[],[],[(64,df_)],aw_,[]⟩
def eT_:=fF eT_.cx f63
theorem ry_:as_ eT_.cx f63 (k+1) [x,.g (.ptr (some (n,m))),.g (.ptr (some (l,o)))] H Q=cA H n m H l o λa b=>dH df_ [x,a,b] H Q []:=zz
theorem rD_:ao_ prog 63 (eT_):=sO (eZ m5_ func64 eN) nO func63
end Go.Am
namespace Go.Am
open List
open Go.Proofs.Tryz
variable{E:Nat->Sm}{k:Nat}{H:Hp}{Q:Post}{U X Y Z u w x x1 y z:Pl}{D L M N O l m n n1 o:Nat}{I g h i j:Int}{C b b1 b2 c d:Bool}{R S e r s t:ByteArray}{A a:Option Nat}{p q:List (Nat×Nat)}{F:Sm}
def dy_.cx:Cx:=⟨tys,[4,5],[],[],[(58,(fS_ (cO_ [(61,eG_),(63,eT_)])))],aw_,[.cell 6 24,.tmp 7]⟩
def dy_:=fF dy_.cx f18
theorem uO_:as_ dy_.cx f18 (k+1) [.agg [.sl x n 5],s,t] H Q=eH (fS_ (cO_ [(61,eG_),(63,eT_)])) [.agg [.sl x n 5],.g (.fn 61 [(ln H,0),(ln (pu H (.row true 9 [.str s])),0)]),.g (.fn 63 [(ln H,0),(ln (pu H (.row true 9 [.str s])),0)])] (pu (pu H (.row true 9 [s])) (.row true 9 [t])) 5 λa b c d=>ax Q [.a [.sl b c 5],d] a:=zz
theorem mk_:ao_ prog 18 (dy_):=sO (dK_.cons ((pv_ (cO_ [(61,eG_),(63,eT_)]) (gw_ (eZ qx_ func61 (eZ rD_ func63 eN)))).c ⟨_,func58,by kernel_rfl,by kernel_rfl⟩) eN) nO func18
def en_.cx:Cx:=⟨tys,[],[],[],[],aw_,[.tmp 2]⟩
def en_:=fF en_.cx f19
theorem tX_:ao_ prog 19 (en_):=sO eN nO func19
def d6_.cx:Cx:=⟨tys,[],[],[],[(28,b0_),(66,ax_)],aw_,[.tmp 2,.tmp 3]⟩
def d6_:=fF d6_.cx f21
theorem wj_:as_ d6_.cx f21 (k+1) [.agg [.sl x n 5]] H Q=dl b0_ [.agg [.sl x n 5]] H λa b c=>d9 b (ax Q [.s (.sl none 0 5),nN 2000] a) (aV ax_ [c] a 5 Q (nN 0)):=zz
theorem no_:ao_ prog 21 (d6_):=sO (eZ kE_ func28 (eZ d2_ func66 eN)) nO func21
def gr_.cx:Cx:=⟨tys,[2],[],[],[],aw_,[.cell 0 24]⟩
def gr_:=fF gr_.cx f44
theorem BU_:as_ gr_.cx f44 (k+1) [] H Q=ak (leI 0 0&&ltI 0 (nI (tN 48))) (aF (pu H (.row true 100 (k8_ (tN 48) [.bool false,.bool false,.sl none 0 1,.sl none 0 1,.sl none 0 1]))) (ln H) (0+tN 0*5) true (ln H) (0+tN 0*5+1) true (λa=>aF a (ln H) (0+tN 0*5+1+1) (.sl none 0 1) (ln H) (0+tN 0*5+1+1+1) (.sl none 0 1) λa=>dt a (ln H) (0+tN 0*5+1+1+1+1) none 0 1 λa=>en Q [.sl (some (ln H,0)) (tN 48) 5] a)):=zz
theorem nd_:ao_ prog 44 (gr_):=sO eN nO func44
def bi_.cx:Cx:=⟨tys,[],[(3,[0,3,4])],[],[],aw_,[.tmp 2]⟩
def bi_:=fF bi_.cx f69
def bi_.l3 k a b c d e:=aT_ (bi_.cx) f69 3 k (nL a b 5::.bad::.bad::nL c d 5::gI e::B 21 [])
theorem x1_:as_ bi_.cx f69 (k+1) [nL x n 5] H Q=bi_.l3 k x n none 0 0 H Q:=zz
theorem bi_.l3_eq:bi_.l3 (k+1) x n y m i H Q=bX i n (cZ (leI 0 i&&ltI i (nI n)) x H (tN i*5) H H H H 3 (λa b c d e f=>aN (dG H e (f*3) H 108 3 40 f (λe=>dD e 52 5 80 y m [a,b,c,d,.sl (some (ln H,0)) f 3] λa b c=>bi_.l3 k x n a b (ac_ .i64 (i+1)) c Q)))) (dC Q y m 5 H):=zz
theorem k0_:ao_ prog 69 (bi_):=sO eN nO func69
def a6_.cx:Cx:=⟨tys,[],[(4,[0,3,5,6,7])],[(9,[0,3,5,6,7])],[],aw_,[.tmp 4]⟩
def a6_:=fF a6_.cx f96
def a6_.l4 k a b c d e f g h i j l m:=aT_ (a6_.cx) f96 4 k (nL a b 5::.bad::.bad::.bx [.str c,.int .i64 d,.str e,.str f,.sl g h 3]::.bad::nL i j 5::gB l::gI m::B 36 [])
def a6_.l9 k a b c d e f g h i j l m:=aT_ (a6_.cx) f96 9 k (nL a b 5::.bad::.bad::.bx [.str c,.int .i64 d,.str e,.str f,.sl g h 3]::.bad::nL i j 5::gB l::gI m::B 36 [])
theorem xE_:as_ a6_.cx f96 (k+1) [nL x n 5,.agg [s,i,t,r,.sl y m 3]] H Q=a6_.l4 k x n s i t r y m none 0 false 0 H Q:=zz
theorem a6_.l4_eq:a6_.l4 (k+1) x n s i t r y m z l b j H Q=bX j n (aK b (bo (leI 0 j&&ltI j (nI n)) x H (tN j*5) (λa=>aK (dE_ a s||gf_ a s) (dD H 52 5 80 z l [s,i,t,r,.sl y m 3] (λa b c=>a6_.l9 k x n s i t r y m a b true j c Q)) (a6_.l9 k x n s i t r y m z l b j H Q))) (a6_.l9 k x n s i t r y m z l b j H Q)) (aK b (dD H 52 5 80 z l [s,i,t,r,.sl y m 3] (λa b c=>dC Q a b 5 c)) (dC Q z l 5 H)):=zz
theorem a6_.l9_eq:a6_.l9 (k+1) x n s i t r y m z l b j H Q=cZ (leI 0 j&&ltI j (nI n)) x H (tN j*5) H H H H 3 λa c d e f g=>dD H 52 5 80 z l [a,c,d,e,.sl f g 3] λa c d=>a6_.l4 k x n s i t r y m a c b (ac_ .i64 (j+1)) d Q:=zz
theorem pu_:ao_ prog 96 (a6_):=sO eN nO func96
def bd_.cx:Cx:=⟨tys,[],[(17,[0,10,11,12])],[],[(95,cg_),(29,a5_),(51,bt_),(69,bi_),(96,a6_)],aw_,[.tmp 8,.tmp 9]⟩
def bd_:=fF bd_.cx f37
def bd_.l17 k a b c d e f g h i j:=aT_ (bd_.cx) f37 17 k (nL a b 5::B 9 (gI c::.bx [.str d,.int .i64 e,.str f,.str g,.sl h i 3]::gI j::B 87 []))
theorem r2_:as_ bd_.cx f37 (k+1) [nL x n 5,s,t,i] H Q=aG cg_ [nL x n 5,t] H λa b=>dN a5_ [nL x n 5] a Q [.s (.sl none 0 5),nN 1900] bt_ [s] Q [.s (.sl none 0 5),nN 1901] λa=>dZ t [] (bq bt_ [t] a Q [.s (.sl none 0 5),nN 1901] (λa=>bg i 0 (cp i 1 Q [.s (.sl none 0 5),nN 1905] a (aG cg_ [nL x n 5,s] a (λa c=>dR 0 c Q [.s (.sl none 0 5),nN 1902] a (dZ t [] (ep b 0 Q [.s (.sl none 0 5),nN 1904] a (bZ (leI 0 b&&ltI b (nI n)) x a (tN b*5) (λc=>cp c 2 Q [.s (.sl none 0 5),nN 1904] a (dR 6 (nI n) Q [.s (.sl none 0 5),nN 1910] a (aZ 0 b (bd_.l17 k x n b s i t (mkS []) none 0 0 a Q) (d8 bi_ [nL x n 5] a 5 a6_ [s,i,t,mkS [],.sl none 0 3] 5 Q (nN 0))))))) (dR 6 (nI n) Q [.s (.sl none 0 5),nN 1910] a (aZ 0 b (bd_.l17 k x n b s i t (mkS []) none 0 0 a Q) (d8 bi_ [nL x n 5] a 5 a6_ [s,i,t,mkS [],.sl none 0 3] 5 Q (nN 0)))))))) (aG cg_ [nL x n 5,s] a (λa c=>dR 0 c Q [.s (.sl none 0 5),nN 1902] a (dZ t [] (ep b 0 Q [.s (.sl none 0 5),nN 1904] a (bZ (leI 0 b&&ltI b (nI n)) x a (tN b*5) (λc=>cp c 2 Q [.s (.sl none 0 5),nN 1904] a (dR 6 (nI n) Q [.s (.sl none 0 5),nN 1910] a (aZ 0 b (bd_.l17 k x n b s i t (mkS []) none 0 0 a Q) (d8 bi_ [nL x n 5] a 5 a6_ [s,i,t,mkS [],.sl none 0 3] 5 Q (nN 0))))))) (dR 6 (nI n) Q [.s (.sl none 0 5),nN 1910] a (aZ 0 b (bd_.l17 k x n b s i t (mkS []) none 0 0 a Q) (d8 bi_ [nL x n 5] a 5 a6_ [s,i,t,mkS [],.sl none 0 3] 5 Q (nN 0))))))))) (bg i 0 (cp i 1 Q [.s (.sl none 0 5),nN 1905] a (aG cg_ [nL x n 5,s] a (λa c=>dR 0 c Q [.s (.sl none 0 5),nN 1902] a (dZ t [] (ep b 0 Q [.s (.sl none 0 5),nN 1904] a (bZ (leI 0 b&&ltI b (nI n)) x a (tN b*5) (λc=>cp c 2 Q [.s (.sl none 0 5),nN 1904] a (dR 6 (nI n) Q [.s (.sl none 0 5),nN 1910] a (aZ 0 b (bd_.l17 k x n b s i t (mkS []) none 0 0 a Q) (d8 bi_ [nL x n 5] a 5 a6_ [s,i,t,mkS [],.sl none 0 3] 5 Q (nN 0))))))) (dR 6 (nI n) Q [.s (.sl none 0 5),nN 1910] a (aZ 0 b (bd_.l17 k x n b s i t (mkS []) none 0 0 a Q) (d8 bi_ [nL x n 5] a 5 a6_ [s,i,t,mkS [],.sl none 0 3] 5 Q (nN 0)))))))) (aG cg_ [nL x n 5,s] a (λa c=>dR 0 c Q [.s (.sl none 0 5),nN 1902] a (dZ t [] (ep b 0 Q [.s (.sl none 0 5),nN 1904] a (bZ (leI 0 b&&ltI b (nI n)) x a (tN b*5) (λc=>cp c 2 Q [.s (.sl none 0 5),nN 1904] a (dR 6 (nI n) Q [.s (.sl none 0 5),nN 1910] a (aZ 0 b (bd_.l17 k x n b s i t (mkS []) none 0 0 a Q) (d8 bi_ [nL x n 5] a 5 a6_ [s,i,t,mkS [],.sl none 0 3] 5 Q (nN 0))))))) (dR 6 (nI n) Q [.s (.sl none 0 5),nN 1910] a (aZ 0 b (bd_.l17 k x n b s i t (mkS []) none 0 0 a Q) (d8 bi_ [nL x n 5] a 5 a6_ [s,i,t,mkS [],.sl none 0 3] 5 Q (nN 0)))))))):=zz
theorem bd_.l17_eq:bd_.l17 (k+1) x n i s j t r y m h H Q=aB (leI 0 i&&ltI i (nI n)) x λa b=>aY H a (b+tN i*5+4) 3 h (dn (leI 0 i&&ltI i (nI n)) x H (tN i*5) 3 0 h h (λa b=>cA H a (b+tN h*3) H a (b+tN h*3+1) λc d=>aD H a (b+tN h*3+1+1) λ_=>dD H 108 3 40 y m [c,d,false] λa b c=>bd_.l17 k x n i s j t r a b (ac_ .i64 (h+1)) c Q)) (d8 bi_ [nL x n 5] H 5 a6_ [s,j,t,r,.sl y m 3] 5 Q (nN 0)):=zz
theorem ta_:ao_ prog 37 (bd_):=sO (eZ kn_ func95 (eZ f0_ func29 (eZ dR_ func51 (eZ k0_ func69 (eZ pu_ func96 eN))))) nO func37
def aG_.cx:Cx:=⟨tys,[],[(2,[0,3]),(6,[0,3,4,5])],[],[(75,bb_)],aw_,[.tmp 2]⟩
def aG_:=fF aG_.cx f121
def aG_.l2 k a b:=aT_ (aG_.cx) f121 2 k (gP a::.bad::.bad::gI b::B 35 [])
def aG_.l6 k a b c d:=aT_ (aG_.cx) f121 6 k (gP a::.bad::.bad::gI b::gB c::gI d::B 33 [])
theorem m1_:as_ aG_.cx f121 (k+1) [x] H Q=aG_.l2 k x 1 H Q:=zz
theorem aG_.l2_eq:aG_.l2 (k+1) x i H Q=aZ i 255 (aG bb_ [x,i] H (λa b=>aG_.l6 k x i (leI 0 b) 0 a Q)) (Q (nN 0) H):=zz
theorem aG_.l6_eq:aG_.l6 (k+1) x i b j H Q=cw x H 4 j (b1_ b (aG_.l6 k x i true (ac_ .i64 (j+1)) H Q) (dg x H 4 0 j j (λa b=>aq H a (b+tN j*4+0) λa=>aG_.l6 k x i (eqI a i) (ac_ .i64 (j+1)) H Q))) (aK b (Q i H) (aG_.l2 k x (ac_ .i64 (i+1)) H Q)):=zz
theorem mP_:ao_ prog 121 (aG_):=sO (eZ g0_ func75 eN) nO func121
def dO_.cx:Cx:=⟨tys,[],[],[],[],aw_,[.tmp 2]⟩
def dO_:=fF dO_.cx f165
theorem pe_:as_ dO_.cx f165 (k+1) [x] H Q=bw x H 5 λ_ a=>dW x H 4 λ_ b=>cI x H 3 λ_ c=>Q (ac_ .i64 (ac_ .i64 (nI a+nI b)+nI c)) H:=zz
theorem oV_:ao_ prog 165 (dO_):=sO eN nO func165
def bc_.cx:Cx:=⟨tys,[],[(2,[0,3])],[],[(75,bb_)],aw_,[.tmp 2]⟩
def bc_:=fF bc_.cx f147
def bc_.l2 k a b:=aT_ (bc_.cx) f147 2 k (gP a::.bad::.bad::gI b::B 21 [])
theorem m2_:as_ bc_.cx f147 (k+1) [x] H Q=bc_.l2 k x 0 H Q:=zz
theorem bc_.l2_eq:bc_.l2 (k+1) x i H Q=cw x H 4 i (dg x H 4 0 i i (λa b=>aq H a (b+tN i*4+0) λa=>aG bb_ [x,a] H λa b=>aw b 0 (Q i a) (bc_.l2 k x (ac_ .i64 (i+1)) a Q))) (dQ Q .i64 (-1) H):=zz
theorem mU_:ao_ prog 147 (bc_):=sO (eZ g0_ func75 eN) nO func147
def aF_.cx:Cx:=⟨tys,[],[(3,[0,1,4,5,6]),(11,[0,7,8])],[],[(55,aQ_)],aw_,[]⟩
def aF_:=fF aF_.cx f123
def aF_.l3 k a b c d e f:=aT_ (aF_.cx) f123 3 k (gP a::gI b::.bad::.bad::gI c::nL d e 4::gI f::B 84 [])
def aF_.l11 k a b c d:=aT_ (aF_.cx) f123 11 k (gP a::B 6 (nL b c 3::gI d::B 82 []))
theorem pc_:as_ aF_.cx f123 (k+1) [x,i] H Q=dg x H 4 0 i i λa b=>aq H a (b+tN i*4+2) λa=>aG aQ_ [x,a] H λa b=>aF_.l3 k x i b none 0 0 a Q:=zz
theorem aF_.l3_eq:aF_.l3 (k+1) x i j y n h H Q=cw x H 4 h (bg h i (dg x H 4 0 h h (λa b=>aq H a (b+tN h*4) λc=>ah H a (b+tN h*4+1) λd=>aq H a (b+tN h*4+1+1) λe=>aD H a (b+tN h*4+1+1+1) λa=>dD H 87 4 40 y n [c,d,e,a] λa b c=>aF_.l3 k x i j a b (ac_ .i64 (h+1)) c Q)) (aF_.l3 k x i j y n (ac_ .i64 (h+1)) H Q)) (bQ x H (.sl y n 4) (λa=>cI x a 3 λb c=>cL (leI 0 j&&ltI j (nI c)) b a (tN j*3) λd=>aB (leI 0 j&&ltI j (nI c)) b λb c=>wr a b (c+tN j*3+1+0) (ac_ .i64 (d-1)) λa=>aF_.l11 k x none 0 0 a Q)):=zz
theorem aF_.l11_eq:aF_.l11 (k+1) x y n i H Q=eK x H 3 i (eG x H 3 0 i i (λa b=>aq H a (b+tN i*3+1+0) λa=>aw 0 a (eG x H 3 0 i i (λa b=>aq H a (b+tN i*3) λc=>aq H a (b+tN i*3+1) λd=>ah H a (b+tN i*3+1+1) λa=>dD H 65 3 32 y n [c,d,a] λa b c=>aF_.l11 k x a b (ac_ .i64 (i+1)) c Q)) (aF_.l11 k x y n (ac_ .i64 (i+1)) H Q))) (pS x (λa b=>bt H a (b+2) (.sl y n 3) Q [])):=zz
theorem jj_:ao_ prog 123 (aF_):=sO (eZ d3_ func55 eN) nO func123
def bJ_.cx:Cx:=⟨tys,[],[(0,[0])],[],[(147,bc_),(123,aF_)],aw_,[]⟩
def bJ_:=fF bJ_.cx f166
def bJ_.l0 k a:=aT_ (bJ_.cx) f166 0 k (gP a::B 8 [])
theorem bJ_.l0_eq:bJ_.l0 (k+1) x H Q=aG bc_ [x] H λa b=>aZ 0 b (aG bc_ [x] a (λa b=>cl aF_ [x,b] a λ_ a=>bJ_.l0 k x a Q)) (ax Q [] a):=zz
theorem n5_:ao_ prog 166 (bJ_):=sO (eZ mU_ func147 (eZ jj_ func123 eN)) nO func166
def fk_.cx:Cx:=⟨tys,[],[],[],[(51,bt_)],aw_,[.tmp 2,.tmp 3]⟩
def fk_:=fF fk_.cx f208
theorem sB_:as_ fk_.cx f208 (k+1) [s] H Q=bq bt_ [s] H Q [mkS [],nN 1600] λa=>db (mkS [115]) s Q (nN 0) a:=zz
theorem sN_:ao_ prog 208 (fk_):=sO (eZ dR_ func51 eN) nO func208
def fp_.cx:Cx:=⟨tys,[17],[],[],[(168,dX_)],aw_,[.tmp 2,.tmp 3]⟩
def fp_:=fF fp_.cx f209
theorem sK_:as_ fp_.cx f209 (k+1) [.agg [i,j,s,t]] H Q=cU dX_ [.agg [i,j,s,t]] H Q [mkS [],nN 1700] (.row true 5 [.int .u8 (ac_ .u8 i),.int .u8 (ac_ .u8 j),.int .u8 (ac_ .u8 (sz s))]) 3 λa b=>Hm_ b s λb=>db b t Q (nN 0) (pu a (.row true 5 [.int .u8 (ac_ .u8 i),.int .u8 (ac_ .u8 j),.int .u8 (ac_ .u8 (sz s))])):=zz
theorem th_:ao_ prog 209 (fp_):=sO (eZ lg_ func168 eN) nO func209
def dA_.cx:Cx:=⟨tys,[],[(3,[0,1,6,7])],[],[],aw_,[.tmp 4,.tmp 5]⟩
def dA_:=fF dA_.cx f99
def dA_.l3 k a b c d e:=aT_ (dA_.cx) f99 3 k (nL a b 1::gS c::B 4 (gI d::gI e::B 27 []))
theorem zk_:as_ dA_.cx f99 (k+1) [nL x n 1,s] H Q=dA_.l3 k x n s 0 0 H Q:=zz
theorem dA_.l3_eq:dA_.l3 (k+1) x n s i j H Q=bX j n (ew (leI 0 j&&ltI j (nI n)) x H (tN j*1) s (dA_.l3 k x n s (ac_ .i64 (i+1)) (ac_ .i64 (j+1)) H Q) (dA_.l3 k x n s i (ac_ .i64 (j+1)) H Q)) (bX i n (aH (leI 0 i&&ltI i (nI n)) x H (tN i*1) (λa=>ax Q [i,.s (.bool (gf_ a s))] H)) (ax Q [i,false] H)):=zz
theorem Ah_:ao_ prog 99 (dA_):=sO eN nO func99
def gz_.cx:Cx:=⟨tys,[],[],[],[],aw_,[.tmp 2]⟩
def gz_:=fF gz_.cx f149
theorem x2_:as_ gz_.cx f149 (k+1) [nL x n 1] H Q=aN (dG H x (n*1) H 9 1 16 n (λa=>dC Q (some (ln H,0)) n 1 a)):=zz
theorem xJ_:ao_ prog 149 (gz_):=sO eN nO func149
def il_.cx:Cx:=⟨tys,[],[],[],[],aw_,[.tmp 2]⟩
def il_:=fF il_.cx f150
theorem zL_:as_ il_.cx f150 (k+1) [nL x n 1] H Q=aN (dG H x (n*1) H 3 1 8 n (λa=>dC Q (some (ln H,0)) n 1 a)):=zz
theorem zz_:ao_ prog 150 (il_):=sO eN nO func150
def cc_.cx:Cx:=⟨tys,[],[(3,[1,2,3,4])],[],[(149,gz_),(150,il_)],aw_,[.cell 2 24]⟩
def cc_:=fF cc_.cx f100
def cc_.l3 k a b c d e f g:=aT_ (cc_.cx) f100 3 k (.bad::.bx [.sl a b 5]::.bx [.sl c d 5]::.bx [.sl e f 5]::gI g::B 32 [])
theorem s3_:as_ cc_.cx f100 (k+1) [.agg [.sl x n 5]] H Q=cc_.l3 k x n none 0 none 0 0 H Q:=zz
theorem cc_.l3_eq:cc_.l3 (k+1) x n y m z l i H Q=bX i n (bV (leI 0 i&&ltI i (nI n)) x H (tN i*5) H (tN i*5) H (tN i*5) 1 H (tN i*5) 1 H (tN i*5) 1 (λa b c d e f g h=>aC gz_ [nL c d 1] H 1 λc d j=>aC gz_ [nL e f 1] c 1 λc e f=>aC il_ [nL g h 1] c 1 λc g h=>dD c 100 5 80 z l [a,b,.sl d j 1,.sl e f 1,.sl g h 1] λa b c=>cc_.l3 k x n y m a b (ac_ .i64 (i+1)) c Q)) (en Q [.sl z l 5] H):=zz
theorem s9_:ao_ prog 100 (cc_):=sO (eZ xJ_ func149 (eZ zz_ func150 eN)) nO func100
def cT_.cx:Cx:=⟨tys,[],[(4,[0,5,6,7]),(2000000,[6])],[],[],aw_,[.tmp 4]⟩
def cT_:=fF cT_.cx f152
def cT_.l4 k a b c d e:=aT_ (cT_.cx) f152 4 k (gI a::B 4 (gI b::nL c d 1::gI e::B 28 []))
theorem xx_:as_ cT_.cx f152 (k+1) [i,j] H Q=chk (!(eqI j 0)) (cT_.l4 k i (mxI 1 (ac_ .i64 (Int.tdiv (ac_ .i64 (ac_ .i64 (i+j)-1)) j))) none 0 0 H Q):=zz
theorem cT_.l4_eq:cT_.l4 (k+1) i j x n h H Q=aw h j (ae (!(eqI j 0)) (!(eqI j 0)) (dD H 3 1 8 x n [ac_ .i64 (ac_ .i64 (Int.tdiv (ac_ .i64 (i*ac_ .i64 (h+1))) j)-ac_ .i64 (Int.tdiv (ac_ .i64 (i*h)) j))] (λa b c=>cT_.l4 k i j a b (ac_ .i64 (h+1)) c Q))) (dC Q x n 1 H):=zz
theorem px_:ao_ prog 152 (cT_):=sO eN nO func152
def a8_.cx:Cx:=⟨tys,[],[(5,[0,2,3,4,5,6]),(9,[0,2,3,4,5,6,7,8])],[(16,[0,2,3,4,5,6,7,9])],[(152,cT_)],aw_,[.cell 2 198]⟩
def a8_:=fF a8_.cx f151
def a8_.l5 k a b c d e f g h i j l m n o:=aT_ (a8_.cx) f151 5 k (nL a b 2::.bad::.bx [.sl c d 5,.sl e f 1]::.bx [.sl g h 5,.sl i j 1]::nL l m 1::gI n::gI o::B 73 [])
def a8_.l9 k a b c d e f g h i j l m n o p q r s t u v w x:=aT_ (a8_.cx) f151 9 k (nL a b 2::.bad::.bx [.sl c d 5,.sl e f 1]::.bx [.sl g h 5,.sl i j 1]::nL l m 1::gI n::gI o::.bx [.bool p,.bool q,.sl r s 1,.sl t u 1,.sl v w 1]::gI x::B 71 [])
def a8_.l16 k a b c d e f g h i j l m n o p q r s t u v w x:=aT_ (a8_.cx) f151 16 k (nL a b 2::.bad::.bx [.sl c d 5,.sl e f 1]::.bx [.sl g h 5,.sl i j 1]::nL l m 1::gI n::gI o::.bx [.bool p,.bool q,.sl r s 1,.sl t u 1,.sl v w 1]::.bad::gS x::B 70 [])
theorem wQ_:as_ a8_.cx f151 (k+1) [nL x n 2] H Q=aC cT_ [nI n,nN 4] H 1 λa b c=>a8_.l5 k x n none 0 none 0 none 0 none 0 b c 0 0 a Q:=zz
theorem a8_.l5_eq:a8_.l5 (k+1) x n y m z l u o w N X M i j H Q=bX j M (a8_.l9 k x n y m z l u o w N X M i j true true none 0 none 0 none 0 i H Q) (en Q [.sl u o 5,.sl w N 1] H):=zz
theorem a8_.l9_eq:a8_.l9 (k+1) x n y m z l u o w N X M i j b c Y L Z O U D h H Q=aJ (leI 0 j&&ltI j (nI M)) X H (tN j*1) λa=>aw h (ac_ .i64 (i+a)) (bo (leI 0 h&&ltI h (nI n)) x H (tN h*2) (λa=>dD H 9 1 16 Y L [a] λa d e=>dE (leI 0 h&&ltI h (nI n)) x e (tN h*2) λf=>dD e 9 1 16 Z O [f] λe f g=>a8_.l9 k x n y m z l u o w N X M i j b c a d e f U D (ac_ .i64 (h+1)) g Q)) (aJ (leI 0 j&&ltI j (nI M)) X H (tN j*1) (λa=>aw 0 a (bo (leI 0 i&&ltI i (nI n)) x H (tN i*2) (λa=>a8_.l16 k x n y m z l u o w N X M i j b c Y L Z O U D a H Q)) (a8_.l16 k x n y m z l u o w N X M i j b c Y L Z O U D (mkS []) H Q))):=zz
theorem a8_.l16_eq:a8_.l16 (k+1) x n y m z l u o w N X M i j b c Y L Z O U D s H Q=dD H 100 5 80 u o [b,c,.sl Y L 1,.sl Z O 1,.sl U D 1] λa b c=>dD c 9 1 16 w N [s] λc d e=>aJ (leI 0 j&&ltI j (nI M)) X e (tN j*1) λf=>a8_.l5 k x n y m z l a b c d X M (ac_ .i64 (i+f)) (ac_ .i64 (j+1)) e Q:=zz
theorem wk_:ao_ prog 151 (a8_):=sO (eZ px_ func152 eN) nO func151
def ba_.cx:Cx:=⟨tys,[],[(4,[2,3,4,5]),(9,[2,3,4,5,6,7,8,9]),(13,[2,3,4,5,6,7,8,9,10,11])],[],[(44,gr_),(151,a8_),(152,cT_)],aw_,[.cell 2 24]⟩
def ba_:=fF ba_.cx f102
def ba_.l4 k a b c d e f g h i:=aT_ (ba_.cx) f102 4 k (.bad::.bad::.bx [.sl a b 5]::.bx [.sl c d 5]::.bx [.sl e f 5,.sl g h 1]::gI i::B 96 [])
def ba_.l9 k a b c d e f g h i j l m n o p q r:=aT_ (ba_.cx) f102 9 k (.bad::.bad::.bx [.sl a b 5]::.bx [.sl c d 5]::.bx [.sl e f 5,.sl g h 1]::gI i::.bx [.sl j l 5,.sl m n 1]::nL o p 1::gI q::gI r::B 92 [])
def ba_.l13 k a b c d e f g h i j l m n o p q r s t u v w x y z A:=aT_ (ba_.cx) f102 13 k (.bad::.bad::.bx [.sl a b 5]::.bx [.sl c d 5]::.bx [.sl e f 5,.sl g h 1]::gI i::.bx [.sl j l 5,.sl m n 1]::nL o p 1::gI q::gI r::.bx [.bool s,.bool t,.sl u v 1,.sl w x 1,.sl y z 1]::gI A::B 90 [])
theorem xZ_:as_ ba_.cx f102 (k+1) [nL x n 2] H Q=bJ gr_ [] H 5 λa b c=>bh a8_ [nL x n 2] a λa d=>ce d 5 1 λd e f g=>ba_.l4 k none 0 b c d e f g 1 a Q:=zz
theorem ba_.l4_eq:ba_.l4 (k+1) x n y m z l u o i H Q=bX 1 l (aC cT_ [nI l,nN 5] H 1 (λa b c=>ba_.l9 k x n y m z l u o i none 0 none 0 b c 0 0 a Q)) (cJ (leI 0 0&&ltI 0 (nI l)) z H (tN 0*5) H (tN 0*5) H (tN 0*5) 1 H (tN 0*5) 1 H (tN 0*5) 1 (leI 0 0&&ltI 0 (nI m)) y H (tN 0*5) (tN 0*5) (tN 0*5) (tN 0*5) (tN 0*5) (λa=>en Q [.sl y m 5] a)):=zz
theorem ba_.l9_eq:ba_.l9 (k+1) x n y m z l u o i w N X M Y L j h H Q=bX h L (ba_.l13 k x n y m z l u o i w N X M Y L j h true false none 0 none 0 none 0 j H Q) (ba_.l4 k x n y m w N X M i H Q):=zz
theorem ba_.l13_eq:ba_.l13 (k+1) x n y m z l u o i w N X M Y L j h b c Z O U D x1 n1 g H Q=aJ (leI 0 h&&ltI h (nI L)) Y H (tN h*1) λa=>aw g (ac_ .i64 (j+a)) (cJ (leI 0 g&&ltI g (nI l)) z H (tN g*5) H (tN g*5) H (tN g*5) 1 H (tN g*5) 1 H (tN g*5) 1 (leI 0 i&&ltI i (nI m)) y H (tN i*5) (tN i*5) (tN i*5) (tN i*5) (tN i*5) (λa=>dD a 3 1 8 x1 n1 [i] λa d e=>aw j g (aH (leI 0 g&&ltI g (nI o)) u e (tN g*1) (λf=>dD e 9 1 16 Z O [f] λe f p=>ba_.l13 k x n y m z l u o (ac_ .i64 (i+1)) w N X M Y L j h b c e f U D a d (ac_ .i64 (g+1)) p Q)) (ba_.l13 k x n y m z l u o (ac_ .i64 (i+1)) w N X M Y L j h b c Z O U D a d (ac_ .i64 (g+1)) e Q))) (dD H 100 5 80 w N [b,c,.sl Z O 1,.sl U D 1,.sl x1 n1 1] (λa b c=>aH (leI 0 j&&ltI j (nI o)) u c (tN j*1) λd=>dD c 9 1 16 X M [d] λc d e=>aJ (leI 0 h&&ltI h (nI L)) Y e (tN h*1) λf=>ba_.l9 k x n y m z l u o i a b c d Y L (ac_ .i64 (j+f)) (ac_ .i64 (h+1)) e Q)):=zz
theorem xH_:ao_ prog 102 (ba_):=sO (eZ nd_ func44 (eZ wk_ func151 (eZ px_ func152 eN))) nO func102
def bn_.cx:Cx:=⟨tys,[],[(4,[1,2,3,6,8]),(15,[1,2,6,12,13])],[],[(98,fO_),(99,dA_),(100,cc_),(101,bs_),(102,ba_)],aw_,[.cell 6 24,.tmp 7]⟩
def bn_:=fF bn_.cx f43
def bn_.l4 k a b c d e f g:=aT_ (bn_.cx) f43 4 k (.bad::gS a::gS b::.bx [.sl c d 5]::.bad::.bad::.bx [.sl e f 5]::.bad::gI g::B 103 [])
def bn_.l15 k a b c d e f g:=aT_ (bn_.cx) f43 15 k (.bad::gS a::gS b::B 3 (.bx [.sl c d 5]::B 5 (nL e f 2::gI g::B 98 [])))
theorem vw_:as_ bn_.cx f43 (k+1) [.agg [.sl x n 5],s,t] H Q=bq fO_ [.agg [.sl x n 5]] H Q [.a [.sl none 0 5],nN 1200] λa=>ep (sz s) 1 Q [.a [.sl none 0 5],nN 1200] a (ep 6 (sz s) Q [.a [.sl none 0 5],nN 1200] a (ep 10 (sz t) Q [.a [.sl none 0 5],nN 1200] a (bn_.l4 k s t x n none 0 0 a Q))):=zz
theorem bn_.l4_eq:bn_.l4 (k+1) s t x n y m i H Q=bX i n (aB (leI 0 i&&ltI i (nI n)) x (λa b=>dJ H a (b+tN i*5+2) λa b=>cd dA_ [nL a b 1,s] H λa b c=>aB (leI 0 i&&ltI i (nI n)) x λd e=>cK a d (e+tN i*5+1) (b1_ c (bJ cc_ [.agg [.sl x n 5]] a 5 (λa c d=>aB (leI 0 i&&ltI i (nI d)) c λe f=>cQ a e (f+tN i*5+3) 1 0 b b λe f=>bt a e (f+tN b*1) t Q [.a [.sl c d 5],nN 0])) (bn_.l4 k s t x n y m (ac_ .i64 (i+1)) a Q)) (bn_.l4 k s t x n y m (ac_ .i64 (i+1)) a Q))) (aC bs_ [.agg [.sl x n 5],nN 0,nL none 0 2] H 2 (λa b c=>dR 60 (nI c) Q [.a [.sl none 0 5],nN 1201] a (bn_.l15 k s t y m b c 0 a Q))):=zz
theorem bn_.l15_eq:bn_.l15 (k+1) s t x n y m i H Q=bX i m (bo (leI 0 i&&ltI i (nI m)) y H (tN i*2) (λa=>b1_ (dE_ a s) (bn_.l15 k s t x n y m (ac_ .i64 (i+1)) H Q) (cf 0 i (eu (leN 0 (tN i)&&(leN (tN i) m||ki_ H y (tN i*2))) (cV H (shf y 0) ((tN i-0)*2) H 131 2 32 none 0 (tN i-0) (λa b c=>dD c 131 2 32 a b [s,t] λa b c=>cf 0 i (eu (leN (tN i) m) (cV c (shf y (tN i*2)) ((m-tN i)*2) c 131 2 32 a b (m-tN i) (λa b c=>bK ba_ [nL a b 2] c 5 Q (nN 0)))))))))) (cf 0 i (eu (leN 0 (tN i)&&(leN (tN i) m||ki_ H y (tN i*2))) (cV H (shf y 0) ((tN i-0)*2) H 131 2 32 none 0 (tN i-0) (λa b c=>dD c 131 2 32 a b [s,t] λa b c=>cf 0 i (eu (leN (tN i) m) (cV c (shf y (tN i*2)) ((m-tN i)*2) c 131 2 32 a b (m-tN i) (λa b c=>bK ba_ [nL a b 2] c 5 Q (nN 0)))))))):=zz
theorem vd_:ao_ prog 43 (bn_):=sO (eZ pB_ func98 (eZ Ah_ func99 (eZ s9_ func100 (eZ tM_ func101 (eZ xH_ func102 eN))))) nO func43
def fi_.cx:Cx:=⟨tys,[16],[],[],[(213,do_),(53,cE_)],aw_,[.tmp 4,.tmp 5]⟩
def fi_:=fF fi_.cx f210
theorem tk_:as_ fi_.cx f210 (k+1) [i,s] H Q=bq do_ [i] H Q [mkS [],nN 1600] λa=>dy cE_ [s] a Q [mkS [],nN 1600] (.row true 5 [.int .u8 102,.int .u8 (ac_ .u8 i)]) 2 s Q (nN 0):=zz
theorem se_:ao_ prog 210 (fi_):=sO (eZ hG_ func213 (eZ gW_ func53 eN)) nO func210
def eC_.cx:Cx:=⟨tys,[9],[],[],[(213,do_)],aw_,[.tmp 2,.tmp 3]⟩
def eC_:=fF eC_.cx f211
theorem rM_:as_ eC_.cx f211 (k+1) [i] H Q=cU do_ [i] H Q [mkS [],nN 1600] (.row true 5 [.int .u8 105,.int .u8 (ac_ .u8 i)]) 2 λa b=>ax Q [b,nN 0] (pu a (.row true 5 [.int .u8 105,.int .u8 (ac_ .u8 i)])):=zz
theorem ro_:ao_ prog 211 (eC_):=sO (eZ hG_ func213 eN) nO func211
def eF_.cx:Cx:=⟨tys,[10],[],[],[(169,dt_)],aw_,[.tmp 2,.tmp 3]⟩
def eF_:=fF eF_.cx f212
theorem rh_:as_ eF_.cx f212 (k+1) [.agg [i,s]] H Q=dy dt_ [.agg [i,s]] H Q [mkS [],nN 1800] (.row true 5 [.int .u8 (ac_ .u8 i)]) 1 s Q (nN 0):=zz
theorem qC_:ao_ prog 212 (eF_):=sO (eZ kr_ func169 eN) nO func212
def aq_.cx:Cx:=⟨tys,[93],[(3,[0,2,3,4]),(9,[0,2,3,9]),(18,[0,2,3,14])],[(16,[0,2,3,9,10,11,13])],[(44,gr_),(208,fk_),(209,fp_),(43,bn_),(210,fi_),(211,eC_),(212,eF_)],aw_,[.cell 2 24]⟩
def aq_:=fF aq_.cx f167
def aq_.l3 k a b c d e f:=aT_ (aq_.cx) f167 3 k (gP a::.bad::.bx [.sl b c 5]::.bx [.sl d e 5]::gI f::B 134 [])
def aq_.l9 k a b c d e f:=aT_ (aq_.cx) f167 9 k (gP a::.bad::.bx [.sl b c 5]::.bx [.sl d e 5]::B 5 (gI f::B 129 []))
def aq_.l16 k a b c d e f g h i j l m:=aT_ (aq_.cx) f167 16 k (gP a::.bad::.bx [.sl b c 5]::.bx [.sl d e 5]::B 5 (gI f::.bx [.int .i64 g,.str h,.int .i64 i,.bool j]::gS l::.bad::.g (.int .u8 m)::B 125 []))
def aq_.l18 k a b c d e f:=aT_ (aq_.cx) f167 18 k (gP a::.bad::.bx [.sl b c 5]::.bx [.sl d e 5]::B 10 (gI f::B 124 []))
theorem oW_:as_ aq_.cx f167 (k+1) [x] H Q=bJ gr_ [] H 5 λa b c=>aq_.l3 k x none 0 b c 0 a Q:=zz
theorem aq_.l3_eq:aq_.l3 (k+1) x y n z m i H Q=eJ x H 5 i (cD x H 5 0 i i (λa b=>ah H a (b+tN i*5+0) λa=>du fk_ [a] H λa b=>cD x a 5 0 i i λc d=>aq a c (d+tN i*5+1) λe=>aq a c (d+tN i*5+1+1) λf=>cA a c (d+tN i*5+1+1+1) a c (d+tN i*5+1+1+1+1) λc d=>du fp_ [.agg [e,f,c,d]] a λa c=>dz bn_ [.agg [.sl z m 5],b,c] a 5 λa b c=>aq_.l3 k x y n b c (ac_ .i64 (i+1)) a Q)) (aq_.l9 k x y n z m 0 H Q):=zz
theorem aq_.l9_eq:aq_.l9 (k+1) x y n z m i H Q=cw x H 4 i (dg x H 4 0 i i (λa b=>aq H a (b+tN i*4) λc=>ah H a (b+tN i*4+1) λd=>aq H a (b+tN i*4+1+1) λe=>aD H a (b+tN i*4+1+1+1) λa=>du fi_ [c,d] H λb f=>b1_ a (aq_.l16 k x y n z m i c d e a f 1 b Q) (aq_.l16 k x y n z m i c d e a f 0 b Q))) (aq_.l18 k x y n z m 0 H Q):=zz
theorem aq_.l16_eq:aq_.l16 (k+1) x y n z m i j s h b t g H Q=rdN (pu H (.row true 5 [.int .u8 (ac_ .u8 h),.int .u8 g])) (some (ln H,0)) 2 λa=>txt a λa=>dz bn_ [.agg [.sl z m 5],t,a] (pu H (.row true 5 [.int .u8 (ac_ .u8 h),.int .u8 g])) 5 λa b c=>aq_.l9 k x y n b c (ac_ .i64 (i+1)) a Q:=zz
theorem aq_.l18_eq:aq_.l18 (k+1) x y n z m i H Q=eK x H 3 i (eG x H 3 0 i i (λa b=>aq H a (b+tN i*3+0) λa=>du eC_ [a] H λa b=>eG x a 3 0 i i λc d=>aq a c (d+tN i*3+1) λe=>ah a c (d+tN i*3+1+1) λc=>du eF_ [.agg [e,c]] a λa c=>dz bn_ [.agg [.sl z m 5],b,c] a 5 λa b c=>aq_.l18 k x y n b c (ac_ .i64 (i+1)) a Q)) (en Q [.sl z m 5] H):=zz
theorem oU_:ao_ prog 167 (aq_):=sO (eZ nd_ func44 (eZ sN_ func208 (eZ th_ func209 (eZ vd_ func43 (eZ se_ func210 (eZ ro_ func211 (eZ qC_ func212 eN))))))) nO func167
def cp_.cx:Cx:=⟨tys,[],[],[],[(165,dO_),(166,bJ_),(167,aq_)],aw_,[.cell 2 24]⟩
def cp_:=fF cp_.cx f122
theorem o0_:as_ cp_.cx f122 (k+1) [x] H Q=aG dO_ [x] H λa b=>aw 60 b (cl bJ_ [x] a (λ_ a=>bJ aq_ [x] a 5 λa b c=>en Q [.sl b c 5] a)) (bJ aq_ [x] a 5 (λa b c=>en Q [.sl b c 5] a)):=zz
theorem g2_:ao_ prog 122 (cp_):=sO (eZ oV_ func165 (eZ n5_ func166 (eZ oU_ func167 eN))) nO func122
def a7_.cx:Cx:=⟨tys,[],[(12,[1,2,3,8,10,14,15,16,17])],[(18,[1,2,3,8,10,14])],[(28,b0_),(66,ax_),(37,bd_),(121,aG_),(52,aU_),(55,aQ_),(122,cp_)],aw_,[.cell 8 24,.tmp 9]⟩
def a7_:=fF a7_.cx f70
def a7_.l12 k a b c d e f g h i j:=aT_ (a7_.cx) f70 12 k (.bad::gS a::gS b::gI c::B 4 (.bx [.sl d e 5]::.bad::gP f::B 3 (gI g::gI h::gI i::gI j::B 106 [])))
def a7_.l18 k a b c d e f g:=aT_ (a7_.cx) f70 18 k (.bad::gS a::gS b::gI c::B 4 (.bx [.sl d e 5]::.bad::gP f::B 3 (gI g::B 109 [])))
theorem sJ_:as_ a7_.cx f70 (k+1) [.agg [.sl x n 5],s,t,i] H Q=dl b0_ [.agg [.sl x n 5]] H λa b c=>d9 b (ax Q [.a [.sl none 0 5],nN 2000] a) (aC ax_ [c] a 5 (λa b d=>bM bd_ [nL b d 5,s,t,i] a 5 λa b _ _=>cP b 0 Q (.a [.sl none 0 5]) a (aG aG_ [c] a (λa b=>dZ t [] (dp c a 5 (λd e f g=>aG aU_ [c,t] a λa h=>bL a d (e+0) 5 (nL f g 5) (cL (leI 0 h&&ltI h (nI g)) f a (tN h*5) (λd=>dW c a 4 λ_ e=>a7_.l12 k s t i none 0 c b d (nI e) 0 a Q)))) (a7_.l18 k s t i none 0 c b a Q))))):=zz
theorem a7_.l12_eq:a7_.l12 (k+1) s t i x n y j h g I H Q=aw I g (dg y H 4 0 I I (λa b=>aq H a (b+tN I*4) λc=>ah H a (b+tN I*4+1) λd=>aq H a (b+tN I*4+1+1) λe=>aD H a (b+tN I*4+1+1+1) λ_=>bj c h (dW y H 4 (λa b=>eF H 87 4 40 a b [j,d,e,false] y λa=>pS y λb c=>aa a b (c+2) 3 λd f=>aG aQ_ [y,e] a λa e=>aa a b (c+2) 3 λb c=>eqv (nL d f 3) (nL b c 3) (cL (leI 0 e&&ltI e (nI f)) d a (tN e*3) (λb=>aB (leI 0 e&&ltI e (nI f)) d λc d=>wr a c (d+tN e*3+1+0) (ac_ .i64 (b+1)) λa=>a7_.l12 k s t i x n y j h g (ac_ .i64 (I+1)) a Q)))) (a7_.l12 k s t i x n y j h g (ac_ .i64 (I+1)) H Q))) (a7_.l18 k s t i x n y j H Q):=zz
theorem a7_.l18_eq:a7_.l18 (k+1) s t i x n y j H Q=bw y H 5 λa b=>dD H 83 5 64 a b [s,j,i,t,mkS []] λa b c=>pS y λd e=>dt c d (e+0) a b 5 λa=>bK cp_ [y] a 5 Q (nN 0):=zz
theorem sq_:ao_ prog 70 (a7_):=sO (eZ kE_ func28 (eZ d2_ func66 (eZ ta_ func37 (eZ mP_ func121 (eZ fb_ func52 (eZ d3_ func55 (eZ g2_ func122 eN))))))) nO func70
def ew_.cx:Cx:=⟨tys,[],[],[],[(95,cg_)],aw_,[.tmp 4,.tmp 5]⟩
def ew_:=fF ew_.cx f67
theorem ud_:as_ ew_.cx f67 (k+1) [nL x n 5,s] H Q=aG cg_ [nL x n 5,s] H λa b=>ep b 0 Q [nN 0,nN 1903] a (bZ (leI 0 b&&ltI b (nI n)) x a (tN b*5) (λc=>cp c 0 Q [nN 0,nN 1905] a (ax Q [b,nN 0] a))):=zz
theorem ms_:ao_ prog 67 (ew_):=sO (eZ kn_ func95 eN) nO func67
def ck_.cx:Cx:=⟨tys,[],[(2,[0,1,5])],[],[],aw_,[.tmp 4]⟩
def ck_:=fF ck_.cx f68
def ck_.l2 k a b c d:=aT_ (ck_.cx) f68 2 k (nL a b 3::gS c::B 3 (gI d::B 14 []))
theorem ut_:as_ ck_.cx f68 (k+1) [nL x n 3,s] H Q=ck_.l2 k x n s 0 H Q:=zz
theorem ck_.l2_eq:ck_.l2 (k+1) x n s i H Q=bX i n (bo (leI 0 i&&ltI i (nI n)) x H (tN i*3) (λa=>cS a s (Q i H) (ck_.l2 k x n s (ac_ .i64 (i+1)) H Q))) (dQ Q .i64 (-1) H):=zz
theorem uN_:ao_ prog 68 (ck_):=sO eN nO func68
def a3_.cx:Cx:=⟨tys,[],[(22,[2,10,13,14,15,16])],[(26,[2,10,13,14,15,16]),(29,[10,13,15])],[(29,a5_),(51,bt_),(67,ew_),(68,ck_),(53,cE_),(69,bi_)],aw_,[.tmp 8,.tmp 9]⟩
def a3_:=fF a3_.cx f23
def a3_.l22 k a b c d e f g h i j:=aT_ (a3_.cx) f23 22 k (.bad::.bad::gS a::B 7 (gI b::.bad::.bad::nL c d 5::.bx [.str e,.str f,.bool g]::nL h i 3::gI j::B 119 []))
def a3_.l26 k a b c d e f g h i j:=aT_ (a3_.cx) f23 26 k (.bad::.bad::gS a::B 7 (gI b::.bad::.bad::nL c d 5::.bx [.str e,.str f,.bool g]::nL h i 3::gI j::B 119 []))
def a3_.l29 k a b c d e:=aT_ (a3_.cx) f23 29 k (B 10 (gI a::.bad::.bad::nL b c 5::.bad::nL d e 3::B 120 []))
theorem w5_:as_ a3_.cx f23 (k+1) [nL x n 5,s,t,r] H Q=dN a5_ [nL x n 5] H Q [.s (.sl none 0 5),nN 1900] bt_ [s] Q [.s (.sl none 0 5),nN 1901] λa=>bz ew_ [nL x n 5,s] a λa b c=>cP b 0 Q (.s (.sl none 0 5)) a (bW (leI 0 c&&ltI c (nI n)) x a (tN c*5) 3 (λb d=>aG ck_ [nL b d 3,t] a λa b=>bq cE_ [t] a Q [.s (.sl none 0 5),nN 1907] λa=>ep 6 (sz r) Q [.s (.sl none 0 5),nN 1909] a (aw b 0 (bW (leI 0 c&&ltI c (nI n)) x a (tN c*5) 3 (λ_ d=>dR 4 (nI d) Q [.s (.sl none 0 5),nN 1910] a (aC bi_ [nL x n 5] a 5 (λa d e=>aZ 0 b (dn (leI 0 c&&ltI c (nI e)) d a (tN c*5) 3 0 b b (λc f=>aF a c (f+tN b*3) t c (f+tN b*3+1) r λa=>bt a c (f+tN b*3+1+1) true Q [.s (.sl d e 5),nN 0])) (a3_.l22 k t c d e t r true none 0 0 a Q))))) (aC bi_ [nL x n 5] a 5 (λa d e=>aZ 0 b (dn (leI 0 c&&ltI c (nI e)) d a (tN c*5) 3 0 b b (λc f=>aF a c (f+tN b*3) t c (f+tN b*3+1) r λa=>bt a c (f+tN b*3+1+1) true Q [.s (.sl d e 5),nN 0])) (a3_.l22 k t c d e t r true none 0 0 a Q)))))):=zz
theorem a3_.l22_eq:a3_.l22 (k+1) s i x n t r b y m j H Q=aB (leI 0 i&&ltI i (nI n)) x λa c=>aY H a (c+tN i*5+4) 3 j (eI m j (dn (leI 0 i&&ltI i (nI n)) x H (tN i*5) 3 0 j j (λa c=>ah H a (c+tN j*3+0) λa=>aK (dE_ a s||gf_ a s) (dD H 108 3 40 y m [t,r,b] (λa c d=>a3_.l26 k s i x n t r b a c j d Q)) (a3_.l26 k s i x n t r b y m j H Q))) (a3_.l26 k s i x n t r b y m j H Q)) (bW (leI 0 i&&ltI i (nI n)) x H (tN i*5) 3 (λ_ a=>eI m (nI a) (dD H 108 3 40 y m [t,r,b] (λa b c=>a3_.l29 k i x n a b c Q)) (a3_.l29 k i x n y m H Q))):=zz
theorem a3_.l26_eq:a3_.l26 (k+1) s i x n t r b y m j H Q=dn (leI 0 i&&ltI i (nI n)) x H (tN i*5) 3 0 j j λa c=>cA H a (c+tN j*3) H a (c+tN j*3+1) λd e=>aD H a (c+tN j*3+1+1) λa=>dD H 108 3 40 y m [d,e,a] λa c d=>a3_.l22 k s i x n t r b a c (ac_ .i64 (j+1)) d Q:=zz
theorem a3_.l29_eq:a3_.l29 (k+1) i x n y m H Q=aB (leI 0 i&&ltI i (nI n)) x λa b=>bt H a (b+tN i*5+4) (.sl y m 3) Q [.s (.sl x n 5),nN 0]:=zz
theorem vt_:ao_ prog 23 (a3_):=sO (eZ f0_ func29 (eZ dR_ func51 (eZ ms_ func67 (eZ uN_ func68 (eZ gW_ func53 (eZ k0_ func69 eN)))))) nO func23
def a0_.cx:Cx:=⟨tys,[],[(2,[0,3])],[],[(55,aQ_)],aw_,[.tmp 2]⟩
def a0_:=fF a0_.cx f124
def a0_.l2 k a b:=aT_ (a0_.cx) f124 2 k (gP a::.bad::.bad::gI b::B 9 [])
theorem kX_:as_ a0_.cx f124 (k+1) [x] H Q=a0_.l2 k x 1 H Q:=zz
theorem a0_.l2_eq:a0_.l2 (k+1) x i H Q=aZ i 255 (aG aQ_ [x,i] H (λa b=>aw b 0 (Q i a) (a0_.l2 k x (ac_ .i64 (i+1)) a Q))) (Q (nN 0) H):=zz
theorem kJ_:ao_ prog 124 (a0_):=sO (eZ d3_ func55 eN) nO func124
def cw_.cx:Cx:=⟨tys,[],[],[(10,[1,2,3,8,10])],[(28,b0_),(66,ax_),(23,a3_),(54,a9_),(123,aF_),(124,a0_),(52,aU_),(122,cp_)],aw_,[.cell 8 24,.tmp 9]⟩
def cw_:=fF cw_.cx f71
def cw_.l10 k a b c d e f:=aT_ (cw_.cx) f71 10 k (.bad::gS a::gS b::gS c::B 4 (.bx [.sl d e 5]::.bad::gP f::B 75 []))
theorem wg_:as_ cw_.cx f71 (k+1) [.agg [.sl x n 5],s,t,r] H Q=dl b0_ [.agg [.sl x n 5]] H λa b c=>d9 b (ax Q [.a [.sl none 0 5],nN 2000] a) (aC ax_ [c] a 5 (λa b d=>bM a3_ [nL b d 5,s,t,r] a 5 λa b _ _=>cP b 0 Q (.a [.sl none 0 5]) a (aG a9_ [c,s,t] a (λa b=>aZ 0 b (cl aF_ [c,b] a (λ_ a=>cw_.l10 k s t r none 0 c a Q)) (cw_.l10 k s t r none 0 c a Q))))):=zz
theorem cw_.l10_eq:cw_.l10 (k+1) s t r x n y H Q=aG a0_ [y] H λa b=>cI y a 3 λc d=>dD a 65 3 32 c d [b,nN 1,r] λa c d=>pS y λe f=>dt d e (f+2) a c 3 λa=>pS y λc d=>aa a c (d+1) 4 λe f=>dp y a 5 λg h i j=>aG aU_ [y,s] a λa l=>bL a g (h+0) 5 (nL i j 5) (aa a c (d+1) 4 (λc d=>eqv (nL e f 4) (nL c d 4) (cL (leI 0 l&&ltI l (nI j)) i a (tN l*5) (λc=>eF a 87 4 40 e f [c,t,b,true] y λa=>bK cp_ [y] a 5 Q (nN 0))))):=zz
theorem wq_:ao_ prog 71 (cw_):=sO (eZ kE_ func28 (eZ d2_ func66 (eZ vt_ func23 (eZ mR_ func54 (eZ jj_ func123 (eZ kJ_ func124 (eZ fb_ func52 (eZ g2_ func122 eN)))))))) nO func71
def bR_.cx:Cx:=⟨tys,[],[(3,[0,1,5,6])],[],[],aw_,[.tmp 4]⟩
def bR_:=fF bR_.cx f97
def bR_.l3 k a b c d e f:=aT_ (bR_.cx) f97 3 k (nL a b 5::gI c::B 3 (nL d e 5::gI f::B 17 []))
theorem sP_:as_ bR_.cx f97 (k+1) [nL x n 5,i] H Q=bR_.l3 k x n i none 0 0 H Q:=zz
theorem bR_.l3_eq:bR_.l3 (k+1) x n i y m j H Q=bX j n (bg j i (cZ (leI 0 j&&ltI j (nI n)) x H (tN j*5) H H H H 3 (λa b c d e f=>dD H 52 5 80 y m [a,b,c,d,.sl e f 3] λa b c=>bR_.l3 k x n i a b (ac_ .i64 (j+1)) c Q)) (bR_.l3 k x n i y m (ac_ .i64 (j+1)) H Q)) (dC Q y m 5 H):=zz
theorem sE_:ao_ prog 97 (bR_):=sO eN nO func97
def fQ_.cx:Cx:=⟨tys,[],[],[],[(29,a5_),(51,bt_),(67,ew_),(95,cg_),(69,bi_),(97,bR_),(96,a6_)],aw_,[.tmp 6,.tmp 7]⟩
def fQ_:=fF fQ_.cx f38
theorem uj_:as_ fQ_.cx f38 (k+1) [nL x n 5,s,t] H Q=dN a5_ [nL x n 5] H Q [.s (.sl none 0 5),nN 1900] bt_ [s] Q [.s (.sl none 0 5),nN 1901] λa=>bq bt_ [t] a Q [.s (.sl none 0 5),nN 1901] λa=>bz ew_ [nL x n 5,s] a λa b c=>cP b 0 Q (.s (.sl none 0 5)) a (aG cg_ [nL x n 5,t] a (λa b=>dR 0 b Q [.s (.sl none 0 5),nN 1902] a (aC bi_ [nL x n 5] a 5 (λa b d=>bC (leI 0 c&&ltI c (nI d)) b a (tN c*5) λe f _=>aq a e (f+tN c*5+1) λ_=>cA a e (f+tN c*5+1+1) a e (f+tN c*5+1+1+1) λg h=>aa a e (f+tN c*5+1+1+1+1) 3 λe f=>d8 bR_ [nL b d 5,c] a 5 a6_ [t,nN 2,g,h,.sl e f 3] 5 Q (nN 0))))):=zz
theorem uf_:ao_ prog 38 (fQ_):=sO (eZ f0_ func29 (eZ dR_ func51 (eZ ms_ func67 (eZ kn_ func95 (eZ k0_ func69 (eZ sE_ func97 (eZ pu_ func96 eN))))))) nO func38
def e9_.cx:Cx:=⟨tys,[],[],[],[(28,b0_),(66,ax_),(38,fQ_),(52,aU_),(122,cp_)],aw_,[.cell 6 24,.tmp 7]⟩
def e9_:=fF e9_.cx f72
theorem un_:as_ e9_.cx f72 (k+1) [.agg [.sl x n 5],s,t] H Q=dl b0_ [.agg [.sl x n 5]] H λa b c=>d9 b (ax Q [.a [.sl none 0 5],nN 2000] a) (aC ax_ [c] a 5 (λa b d=>bM fQ_ [nL b d 5,s,t] a 5 λa b _ _=>cP b 0 Q (.a [.sl none 0 5]) a (aG aU_ [c,s] a (λa b=>cD c a 5 0 b b λd e=>wr a d (e+tN b*5+0) t λa=>cD c a 5 0 b b λd e=>wr a d (e+tN b*5+1+1) (nN 2) λa=>bK cp_ [c] a 5 Q (nN 0))))):=zz
theorem uV_:ao_ prog 72 (e9_):=sO (eZ kE_ func28 (eZ d2_ func66 (eZ uf_ func38 (eZ fb_ func52 (eZ g2_ func122 eN))))) nO func72
def ev_.cx:Cx:=⟨tys,[],[],[],[(44,gr_),(70,a7_),(71,cw_),(72,e9_)],aw_,[.cell 0 24]⟩
def ev_:=fF ev_.cx f26
theorem uI_:as_ ev_.cx f26 (k+1) [] H Q=bJ gr_ [] H 5 λa b c=>dV a7_ [.agg [.sl b c 5],mkS [119],mkS [],nN 0] a 5 cw_ (mkS [119]) (mkS [97]) (mkS [111,110,101]) 5 λa b c=>dV e9_ [.agg [.sl b c 5],mkS [119],mkS [98,97,115,101]] a 5 a7_ (mkS [119,111,114,107]) (mkS [98,97,115,101]) (nN 0) 5 λa b c=>dz cw_ [.agg [.sl b c 5],mkS [119,111,114,107],mkS [98],mkS [116,119,111]] a 5 λa b c=>en Q [.sl b c 5] a:=zz
theorem mv_:ao_ prog 26 (ev_):=sO (eZ nd_ func44 (eZ sq_ func70 (eZ wq_ func71 (eZ uV_ func72 eN)))) nO func26
end Go.Am
namespace Go.Am
open List
open Go.Proofs.Tryz
variable{E:Nat->Sm}{k:Nat}{H:Hp}{Q:Post}{U X Y Z u w x x1 y z:Pl}{D L M N O l m n n1 o:Nat}{I g h i j:Int}{C b b1 b2 c d:Bool}{R S e r s t:ByteArray}{A a:Option Nat}{p q:List (Nat×Nat)}{F:Sm}
def gt_.cx E:=(⟨tys,[],[],[],[(26,ev_),(15,(ef_ E)),(17,dB_),(21,d6_),(18,dy_),(19,en_)],E,[.tmp 0]⟩:Cx)
def gt_ E:=fF (gt_.cx E) f22
theorem vu_:as_ (gt_.cx E) f22 (k+1) [] H Q=bJ ev_ [] H 5 λa b c=>bF (ef_ E) [.agg [.sl b c 5],mkS [119,111,114,107],mkS [97]] a λa d e=>bc d λd=>eH dB_ [.agg [.sl b c 5],mkS [119,111,114,107],mkS [97],mkS [115,105,120]] a 5 λa f g h=>bM d6_ [.agg [.sl f g 5]] a 5 λa f g i=>aX f (eH dy_ [.agg [.sl b c 5],mkS [119,111,114,107],mkS [98]] a 5 (λa f j l=>bM d6_ [.agg [.sl f j 5]] a 5 λa f j m=>aX f (bf dB_ [.agg [.sl b c 5],mkS [98,97,115,101],mkS [97],mkS []] a (λa f n=>aA n 5 λn _ _=>uN n (bc f (λf=>bF (ef_ E) [.agg [.sl b c 5],mkS [98,97,115,101],mkS [122]] a λa b _=>bc b λb=>bF (ef_ E) [.agg [.sl none 0 5],mkS [98,97,115,101],mkS [97]] a λa c _=>bc c λc=>bg (nI i) 2 (aT Q a) (bg (nI m) 2 (aT Q a) (bW (leI 0 0&&ltI 0 (nI i)) g a (tN 0*5) 3 (λ_ n=>bg (nI n) 1 (aT Q a) (bW (leI 0 1&&ltI 1 (nI i)) g a (tN 1*5) 3 (λ_ n=>bg (nI n) 2 (aT Q a) (dY e [111,110,101] (aG en_ [d] a (λa d=>bj d 0 (bW (leI 0 1&&ltI 1 (nI i)) g a (tN 1*5) 3 (λd e=>dE (leI 0 0&&ltI 0 (nI e)) d a (tN 0*3) λd=>dY d [115,105,120] (bW (leI 0 0&&ltI 0 (nI i)) g a (tN 0*5) 3 (λd e=>dE (leI 0 0&&ltI 0 (nI e)) d a (tN 0*3) λd=>dY d [111,110,101] (aG en_ [h] a (λa d=>bj d 0 (bW (leI 0 1&&ltI 1 (nI m)) j a (tN 1*5) 3 (λ_ d=>eI d 1 (aG en_ [l] a (λa d=>bj d 0 (aG en_ [f] a (λa d=>bj d 1905 (aG en_ [b] a (λa b=>bj b 1908 (aG en_ [c] a (λa b=>da Q b 2000 a)) (aT Q a))) (aT Q a))) (aT Q a))) (aT Q a))) (aT Q a))) (aT Q a))) (aT Q a))) (aT Q a))) (aT Q a))))))))))))):=zz
theorem vn_(E)(h:eE E):ao_ prog 22 (gt_ E):=sO (eZ mv_ func26 (eZ (po_ E h) func15 (eZ om_ func17 (eZ no_ func21 (eZ mk_ func18 (eZ tX_ func19 eN)))))) h func22
def aH_.cx E:=(⟨tys,[6,7,48,115],[(11,[0,1,5,6,7,8]),(33,[5,6,7,16])],[(26,[0,1,5,6,7,8,9,10,13])],[(22,(gt_ E)),(26,ev_),(18,dy_),(19,en_),(17,dB_),(15,(ef_ E)),(21,d6_)],E,[.tmp 4]⟩:Cx)
def aH_ E:=fF (aH_.cx E) f8
def aH_.l11 E k a b c d e f g h i j l:=aT_ (aH_.cx E) f8 11 k (nL a b 1::nL c d 1::B 3 (.bx [.sl e f 5]::.g (.ptr (some (g,h)))::.g (.ptr (some (i,j)))::gI l::B 151 []))
def aH_.l26 E k a b c d e f g h i j l m n o:=aT_ (aH_.cx E) f8 26 k (nL a b 1::nL c d 1::B 3 (.bx [.sl e f 5]::.g (.ptr (some (g,h)))::.g (.ptr (some (i,j)))::gI l::gI m::gS n::.bad::.bad::gS o::B 146 []))
def aH_.l33 E k a b c d e f g:=aT_ (aH_.cx E) f8 33 k (B 5 (.bx [.sl a b 5]::.g (.ptr (some (c,d)))::.g (.ptr (some (e,f)))::B 8 (gI g::B 143 [])))
theorem rU_:as_ (aH_.cx E) f8 (k+1) [nL x n 1,nL y m 1] H Q=dk (gt_ E) [] H Q λa=>bJ ev_ [] a 5 λa b c=>chk (leI 0 0&&ltI 0 (nI 4)) (wr (pu (pu a (.row true 69 [mkS [],mkS [],mkS [],mkS []])) (.row true 70 [false,false,false,false])) (ln a) (0+tN 0*1) (mkS [111,110,101]) (λd=>chk (leI 0 1&&ltI 1 (nI 4)) (wr d (ln a) (0+tN 1*1) (mkS [116,119,111]) (λd=>chk (leI 0 0&&ltI 0 (nI 4)) (wr d (ln (pu a (.row true 69 [mkS [],mkS [],mkS [],mkS []]))) (0+tN 0*1) true (λd=>chk (leI 0 1&&ltI 1 (nI 4)) (wr d (ln (pu a (.row true 69 [mkS [],mkS [],mkS [],mkS []]))) (0+tN 1*1) true (λd=>aH_.l11 E k x n y m b c (ln a) 0 (ln (pu a (.row true 69 [mkS [],mkS [],mkS [],mkS []]))) 0 0 d Q)))))))):=zz
theorem aH_.l11_eq:aH_.l11 E (k+1) x n y m z l o N M L i H Q=bX i n (aw i 25 (aJ (leI 0 i&&ltI i (nI n)) x H (tN i*1) (λa=>rdN (pu H (.row true 5 [.int .u8 (ac_ .u8 (ac_ .i64 (97+eY_ .and .i64 a 3)))])) (some (ln H,0)) 1 λb=>txt b λb=>aJ (leI 0 i&&ltI i (nI n)) x (pu H (.row true 5 [.int .u8 (ac_ .u8 (ac_ .i64 (97+eY_ .and .i64 a 3)))])) (tN i*1) λc=>bj (eY_ .and .i64 c 4) 4 (eH dy_ [.agg [.sl z l 5],mkS [119,111,114,107],b] (pu H (.row true 5 [.int .u8 (ac_ .u8 (ac_ .i64 (97+eY_ .and .i64 a 3)))])) 5 (λb c d e=>chk (leI 0 (eY_ .and .i64 a 3)&&ltI (eY_ .and .i64 a 3) (nI 4)) (aD b M (L+tN (eY_ .and .i64 a 3)*1) (λf=>aG en_ [e] b λb e=>aD b M (L+tN (eY_ .and .i64 a 3)*1) λg=>eqv f g (aK (eqB (eqI e 0) f) (aT Q b) (chk (leI 0 (eY_ .and .i64 a 3)&&ltI (eY_ .and .i64 a 3) (nI 4)) (cK b M (L+tN (eY_ .and .i64 a 3)*1) (chk (leI 0 (eY_ .and .i64 a 3)&&ltI (eY_ .and .i64 a 3) (nI 4)) (wr b M (L+tN (eY_ .and .i64 a 3)*1) false (λa=>aH_.l11 E k x n y m c d o N M L (ac_ .i64 (i+1)) a Q))) (chk (leI 0 (eY_ .and .i64 a 3)&&ltI (eY_ .and .i64 a 3) (nI 4)) (wr b M (L+tN (eY_ .and .i64 a 3)*1) false (λa=>aH_.l11 E k x n y m z l o N M L (ac_ .i64 (i+1)) a Q)))))))))) (bX 0 m (eu (!(eqI (nI m) 0)) (chk (leI 0 (Int.tmod i (nI m))&&ltI (Int.tmod i (nI m)) (nI m)) (pS y (λc d=>ah (pu H (.row true 5 [.int .u8 (ac_ .u8 (ac_ .i64 (97+eY_ .and .i64 a 3)))])) c (d+tN (Int.tmod i (nI m))*1) λc=>di 0 (mnI (sz c) 6) (leN 0 (tN (mnI (sz c) 6))&&leN (tN (mnI (sz c) 6)) (szN c)) (aH_.l26 E k x n y m z l o N M L i (eY_ .and .i64 a 3) b (sub c 0 (tN (mnI (sz c) 6))) (pu H (.row true 5 [.int .u8 (ac_ .u8 (ac_ .i64 (97+eY_ .and .i64 a 3)))])) Q))))) (aH_.l26 E k x n y m z l o N M L i (eY_ .and .i64 a 3) b (mkS [113]) (pu H (.row true 5 [.int .u8 (ac_ .u8 (ac_ .i64 (97+eY_ .and .i64 a 3)))])) Q)))) (aH_.l33 E k z l o N M L 0 H Q)) (aH_.l33 E k z l o N M L 0 H Q):=zz
theorem aH_.l26_eq:aH_.l26 E (k+1) x n y m z l o N M L i j s t H Q=eH dB_ [.agg [.sl z l 5],mkS [119,111,114,107],s,t] H 5 λa b c d=>aG en_ [d] a λa d=>bg d 0 (aT Q a) (chk (leI 0 j&&ltI j (nI 4)) (wr a o (N+tN j*1) t (λa=>chk (leI 0 j&&ltI j (nI 4)) (wr a M (L+tN j*1) true (λa=>aH_.l11 E k x n y m b c o N M L (ac_ .i64 (i+1)) a Q))))):=zz
theorem aH_.l33_eq:aH_.l33 E (k+1) x n m l o N i H Q=aw i 4 (rdN (pu H (.row true 5 [.int .u8 (ac_ .u8 (ac_ .i64 (97+i)))])) (some (ln H,0)) 1 (λa=>txt a λa=>bF (ef_ E) [.agg [.sl x n 5],mkS [119,111,114,107],a] (pu H (.row true 5 [.int .u8 (ac_ .u8 (ac_ .i64 (97+i)))])) λa b c=>bc b λb=>chk (leI 0 i&&ltI i (nI 4)) (aD a o (N+tN i*1) (λd=>aG en_ [b] a λa b=>aD a o (N+tN i*1) λe=>eqv d e (aK (eqB (eqI b 0) d) (aT Q a) (chk (leI 0 i&&ltI i (nI 4)) (cK a o (N+tN i*1) (chk (leI 0 i&&ltI i (nI 4)) (ah a m (l+tN i*1) (λb=>dw c b (aT Q a) (aH_.l33 E k x n m l o N (ac_ .i64 (i+1)) a Q)))) (aH_.l33 E k x n m l o N (ac_ .i64 (i+1)) a Q)))))))) (bF (ef_ E) [.agg [.sl x n 5],mkS [98,97,115,101],mkS [97]] H (λa b c=>bc b λb=>bM d6_ [.agg [.sl x n 5]] a 5 λa d _ _=>bc d λd=>dY c [111,110,101] (aG en_ [b] a (λa b=>bj b 0 (da Q d 0 a) (aT Q a))) (aT Q a))):=zz
theorem qX_(E)(h:eE E):ao_ prog 8 (aH_ E):=sO (eZ (vn_ E h) func22 (eZ mv_ func26 (eZ mk_ func18 (eZ tX_ func19 (eZ om_ func17 (eZ (po_ E h) func15 (eZ no_ func21 eN))))))) h func8
end Go.Am
namespace Go.Am
open List
open Go.Proofs.Tryz
variable{E:Nat->Sm}{k:Nat}{H:Hp}{Q:Post}{U X Y Z u w x x1 y z:Pl}{D L M N O l m n n1 o:Nat}{I g h i j:Int}{C b b1 b2 c d:Bool}{R S e r s t:ByteArray}{A a:Option Nat}{p q:List (Nat×Nat)}{F:Sm}
end Go.Am
namespace Go.Am
open List
theorem oQ_:cO_ ((f,s)::l) f=s:=by simp[cO_]
theorem p7_(h:f≠g):cO_ ((g,s)::l) f=cO_ l f:=by
 unfold cO_;grind
theorem pp_(r:Q (gB (decide (1<=s.size)&&decide (s.size<=6))) H):dm_ [gS s] H Q:=by
 refine⟨1,?_⟩;rw[Bj_];refine aa_ (λh=>?_) λh=>?_
 .simp[kz_]at h ⊢;rw[lE (show 1<=s.size by omega),Bool.true_and]at r;rw[show decide ((s.size:Int)<=6)=decide (s.size<=6) by rw[decide_eq_decide];omega];exact r
 .simp[kz_]at h;grind
theorem mu_(h:Q (gB (decide (s.size<=10))) H):cn_ [gS s] H Q:=by
 refine⟨1,?_⟩;rw[xW_];simp[kz_];rw[show decide ((s.size:Int)<=10)=decide (s.size<=10) by rw[decide_eq_decide];omega];exact h
theorem xp_(r:Q (gB (decide (1<=k)&&decide (k<48))) H):dI_ [gI k] H Q:=by
 refine⟨1,?_⟩;rw[AJ_];refine aa_ (λh=>?_) λh=>?_
 .simp_all
 .simp at h;grind
def ir_(xs:List Y_):Prop:=∀i,(h:i+1<xs.length)->dE_ (xs[i]'o_) xs[i+1]=true
theorem r5_ (h:Ss H a n xs) (F:∀b,(b=true↔ir_ xs)->Q (gB b) H):
 ∀m k:Nat,xs.length-k=m->(∀i,(hi:i+1<xs.length)->i<k->dE_ (xs[i]'o_) xs[i+1]=true)->∃f,cI_.l2 f a n ((k+1:Nat):Int) H Q:=by
 intro m;have U:=h.len;have G:=h.lim;induction m with
 |zero=>
  refine λk I C=>⟨1,?_⟩;rw[cI_.l2_eq,show ltI ((k+1:Nat)) (nI n)=false by simp;omega,gn_];exact F true ⟨λ_ i hi=>C i hi o_,λ_=>rfl⟩
 | succ m O=>
  intro k I C;by_cases r:k+1<xs.length
  ·have A:ltI ((k+1:Nat)) (nI n)=true:=by simp;omega
   cases D:dE_ (xs[k]'o_) xs[k+1] with
   | true=>
    have⟨f,N⟩:=O (k+1) o_ (λi hi J=>by
     by_cases e:i=k
     .grind
     .exact C i hi o_)
    refine⟨f+1,?_⟩;rw[cI_.l2_eq,az_ A,af_,h.rd k (d9_ o_) o_,af_,h.rd (k+1) rfl r,aA_ g_,an_ o_];exact N
   |false=>
    refine⟨1,?_⟩;rw[cI_.l2_eq,az_ A,af_,h.rd k (d9_ o_) o_,af_,h.rd (k+1) rfl r,az_ (by rw[D];rfl)];refine F false ⟨λq=>(by cases q),λq=>?_⟩;rw[q k r]at D;cases D
  .refine⟨1,?_⟩;rw[cI_.l2_eq,show ltI ((k+1:Nat)) (nI n)=false by simp;omega,gn_];exact F true ⟨λ_ i hi=>C i hi o_,λ_=>rfl⟩
theorem s5_(h:Ss H a n xs)(A:∀b,(b=true↔ir_ xs)->Q (gB b) H):cI_ [nL a n 1] H Q:=by
 have⟨f,r⟩:=r5_ h A _ 0 rfl (λi C h=>by omega);exact⟨f+1,r⟩
theorem lP_{p:Y_->Bool}(A:∀(s:Y_)(H:Hp)(Q:Post),Q (gB (p s)) H->E f [gS s] H Q)(h:gt H l 0=some (.fn f []))
 (r:Q (gB (!(p s))) H):c2_ E [gS s,yQ l] H Q:=by
 refine⟨1,?_⟩;rw[n4_,ad_ h,IL_];exact A s H _ r
theorem q8_ {p:Y_->Bool} (I:∀(s:Y_)(Q:Post),Q (gB (p s)) H->E g [gS s,yQ l] H Q)
 (h:Ss H a n xs) (V:∀i:Int,(0<=i↔∃s∈xs,p s=true)->Q (gI i) H):
 ∀m k:Nat,xs.length-k=m->k<=xs.length->(∀i,(hi:i<xs.length)->i<k->p xs[i]=false)->∃f,aM_.l2 E f a n g [(l,0)] (nI n) (k:Int) H Q:=by
 intro m;have Y:=h.len;have F:=h.lim;induction m with
 |zero=>
  refine λk J D G=>⟨1,?_⟩;rw[aM_.l2_eq,show ltI k (nI n)=false by simp;omega,gn_];refine V _ ⟨λq=>by omega,fun⟨s,C,W⟩=>?_⟩;obtain⟨i,hi,rfl⟩:=kK C;grind
 | succ m U=>
  intro k J D G;have r:k<xs.length:=by omega
  have A:ltI k (nI n)=true:=by simp;omega
  cases C:p xs[k] with
  | false=>
   have⟨f,O⟩:=U (k+1) o_ o_ (λi hi N=>by
    by_cases e:i=k
    .grind
    .exact G i hi o_)
   refine⟨f+1,?_⟩;rw[aM_.l2_eq,az_ A,af_,h.rd k rfl r];refine I _ _ ?_;rw[aO_,am_,C,gn_,an_ o_];exact O
  |true=>
   refine⟨1,?_⟩;rw[aM_.l2_eq,az_ A,af_,h.rd k rfl r];refine I _ _ ?_;rw[aO_,am_,C,oN_];grind
theorem iX_ {p:Y_->Bool} (O:∀(s:Y_)(H:Hp)(Q:Post),Q (gB (p s)) H->E f [gS s] H Q)
 (h:Ss H a n xs) (D:∀b H',H<+:H'->(b=true↔∀s∈xs,p s=true)->Q (gB b) H'):ej_ E [nL a n 1,.g (.fn f [])] H Q:=by
 refine⟨1,?_⟩;have F:=bU_ H (.row true Ko_ [.fn f []]);refine⟨1,?_⟩;have⟨k,N⟩:=q8_ (E:=cO_ [(Iv_,c2_ E)]) (g:=Iv_) (l:=H.length)
  (λs Q D=>lP_ O (by simp[gt]) D) (Q:=λr J=>rG r λC=>dI .i64 C λI=>rG (gB (leI 0 I)) λC=>dB C λb3=>Q (gB (!b3)) J) (h.mono F)
  (fun i G=>by
   rw[aO_,ai_,aO_,am_];refine D _ _ F ?_;simp only[kz_,Bool.not_eq_true',decide_eq_false_iff_not];rw[G];constructor
   .intro q s A;cases e:p s with
    |true=>rfl
    |false=>exact (q ⟨s,A,g_⟩).elim
   .rintro q ⟨s,A,e⟩;rw[q s A]at e;cases e) _ 0 rfl (kP _) (λi G h=>by omega)
 exact⟨k+1,N
⟩
theorem pb_{p:Int->Bool}(A:∀(s:Int)(H:Hp)(Q:Post),Q (gB (p s)) H->E f [gI s] H Q)(h:gt H l 0=some (.fn f []))
 (r:Q (gB (!(p s))) H):d0_ E [gI s,yQ l] H Q:=by
 refine⟨1,?_⟩;rw[qK_,ad_ h,IL_];exact A s H _ r
theorem wX_ {p:Int->Bool} {g l:Nat} (I:∀(s:Int)(Q:Post),Q (gB (p s)) H->E g [gI s,yQ l] H Q)
 (h:Is H a n xs) (V:∀i:Int,(0<=i↔∃s∈xs,p s=true)->Q (gI i) H):
 ∀m k:Nat,xs.length-k=m->k<=xs.length->(∀i,(hi:i<xs.length)->i<k->p xs[i]=false)->∃f,a1_.l2 E f a n g [(l,0)] (nI n) (k:Int) H Q:=by
 intro m;have Y:=h.len;have F:=h.lim;induction m with
 |zero=>
  refine λk J D G=>⟨1,?_⟩;rw[a1_.l2_eq,show ltI k (nI n)=false by simp;omega,gn_];refine V _ ⟨λq=>by omega,fun⟨s,C,W⟩=>?_⟩;obtain⟨i,hi,rfl⟩:=kK C;grind
 | succ m U=>
  intro k J D G;have r:k<xs.length:=by omega
  have A:ltI k (nI n)=true:=by simp;omega
  cases C:p xs[k] with
  | false=>
   have⟨f,O⟩:=U (k+1) o_ o_ (λi hi N=>by
    by_cases e:i=k
    .grind
    .exact G i hi o_)
   refine⟨f+1,?_⟩;rw[a1_.l2_eq,az_ A,af_,h.rd k rfl r];refine I _ _ ?_;rw[aO_,am_,C,gn_,an_ o_];exact O
  |true=>
   refine⟨1,?_⟩;rw[a1_.l2_eq,az_ A,af_,h.rd k rfl r];refine I _ _ ?_;rw[aO_,am_,C,oN_];grind
theorem qJ_ {p:Int->Bool} (O:∀(s:Int)(H:Hp)(Q:Post),Q (gB (p s)) H->E f [gI s] H Q)
 (h:Is H a n xs) (D:∀b H',H<+:H'->(b=true↔∀s∈xs,p s=true)->Q (gB b) H'):gU_ E [nL a n 1,.g (.fn f [])] H Q:=by
 refine⟨1,?_⟩;have F:=bU_ H (.row true Kt_ [.fn f []]);refine⟨1,?_⟩;have⟨k,N⟩:=wX_ (E:=cO_ [(IJ_,d0_ E)]) (g:=IJ_) (l:=H.length)
  (λs Q D=>pb_ O (by simp[gt]) D) (Q:=λr J=>rG r λC=>dI .i64 C λI=>rG (gB (leI 0 I)) λC=>dB C λb3=>Q (gB (!b3)) J) (h.mono F)
  (fun i G=>by
   rw[aO_,ai_,aO_,am_];refine D _ _ F ?_;simp only[kz_,Bool.not_eq_true',decide_eq_false_iff_not];rw[G];constructor
   .intro q s A;cases e:p s with
    |true=>rfl
    |false=>exact (q ⟨s,A,g_⟩).elim
   .rintro q ⟨s,A,e⟩;rw[q s A]at e;cases e) _ 0 rfl (kP _) (λi G h=>by omega)
 exact⟨k+1,N⟩
def Ir_(zs:List Int):Prop:=∀i,(h:i+1<zs.length)->zs[i]'o_≠zs[i+1]
theorem Is.row{C:List Int}(h:H[l]?=some (.row own t (C.map (GV.int .i64))))(D:o+n=C.length)(r:n*8<=140737488351232):Is H (some (l,o)) n (C.drop o):=
 ⟨by simp only[cells?,h];rw[if_pos g_];rw[<-map_drop,<-map_take,k7 g_],g_,r⟩
theorem CP_ {H0:Hp} {l n o n2:Nat} {Q:Post} (hb:H0.length<=l) (hlim:n*8<=140737488351232) (hon:o+n2=n) (hQ:∀(j:Nat) H',H0<+:H'->j<n->Q (nL (some (l,0)) j 1) H'):
 ∀(m' m j:Nat)(H:Hp)(ws:List Int),n2-m=m'->1<=m->m<=n2->1<=j->j+1<=o+m->H0<+:H->H[l]?=some (.row true tI (ws.map (GV.int .i64)))->ws.length=n->
  ∃f,ar_.l9 f (some (l,0)) n (j:Int) (some (l,o)) n2 (m:Int) H Q:=by
 intro m';induction m' with
 | zero=>
  intro m j H ws hm h1 h2 hj hjo h0 hrow hw;refine⟨1,?_⟩;obtain⟨d,hd⟩:∃d,n-j=d+1:=⟨n-j-1,o_⟩;rw[ar_.l9_eq,aA_ s_,af_];refine ab_ t_ (ab_ s_ ?_);simp only[CB_,Int.toNat_natCast,Nat.mul_one,v2_,kN,af_,hd];show (match H[l]? with
   |some (.row true t cs)=>j+(d+1)*1<=cs.length/\_
   |_=>False)
  rw[hrow];refine⟨s_,ab_ t_ (ab_ s_ ?_)⟩;exact hQ j _ (dH_ h0 hb _) o_
 | succ m' ih=>
  intro m j H ws hm h1 h2 hj hjo h0 hrow hw;have hI:=Is.row (o:=o) (n:=n2) hrow o_ o_;have hmn:m<(ws.drop o).length:=by simp;omega
  obtain⟨m1,rfl⟩:∃m1,m=m1+1:=⟨m-1,o_⟩;have hm1:m1<(ws.drop o).length:=by omega
  have hlt:ltI ((m1+1:Nat):Int) (nI n2)=true:=by simp;omega
  by_cases he:(ws.drop o)[m1+1]=(ws.drop o)[m1]
  .obtain⟨f,hf⟩:=ih (m1+1+1) j H ws o_ o_ o_ hj o_ h0 hrow hw;refine⟨f+1,?_⟩;rw[ar_.l9_eq,az_ hlt,af_,hI.rd (m1+1) rfl hmn,af_,hI.rd m1 (d9_ o_) hm1,aA_ (by simpa using he),an_ o_];exact hf
  ·have hjn:j<(ws.map (GV.int .i64)).length:=by simp;omega
   obtain⟨f,hf⟩:=ih (m1+1+1) (j+1) (H.set l (.row true tI ((ws.set j (ws.drop o)[m1+1]).map (GV.int .i64)))) (ws.set j (ws.drop o)[m1+1]) o_ o_ o_ o_ o_ (dH_ h0 hb _)
    (by rw[kH];exact (kC.1 hrow).1) (by simpa using hw)
   refine⟨f+1,?_⟩;rw[ar_.l9_eq,az_ hlt,af_,hI.rd (m1+1) rfl hmn,af_,hI.rd m1 (d9_ o_) hm1,az_ (by simpa using he),af_,hI.rd (m1+1) rfl hmn,af_];refine ab_ s_ ?_;simp only[CB_,Int.toNat_natCast,Nat.mul_one,ae_,kN];rw[rK_ hrow hjn,an_ o_,an_ o_];rw[List.map_set]at hf;exact hf
theorem zN_ {H0 H:Hp} {l:Nat} {zs:List Int} {Q:Post} (h0:H0<+:H) (hb:H0.length<=l) (hrow:H[l]?=some (.row true tI (zs.map (GV.int .i64)))) (hlim:zs.length*8<=140737488351232)
 (hQ:∀(a:Pl)(j:Nat) H',H0<+:H'->(j=zs.length↔Ir_ zs)->Q (nL a j 1) H'):ar_ [nL (some (l,0)) zs.length 1] H Q:=by
 have hI:=Is.row (o:=0) (n:=zs.length) hrow o_ hlim;rw[drop_zero]at hI;have loop:∀m k:Nat,zs.length-k=m->k+1<=zs.length->(∀i,(h:i+1<zs.length)->i<k->zs[i]'o_≠zs[i+1])->∃f,ar_.l4 f (some (l,0)) zs.length ((k+1:Nat):Int) H Q:=by
  intro m;induction m with
  |zero=>intro k hm hk;omega
  | succ m ih=>
   intro k hm hk hne;by_cases hkn:k+1<zs.length
   ·have hlt:ltI ((k+1:Nat):Int) (nI zs.length)=true:=by simp;omega
    by_cases he:zs[k+1]=zs[k]'o_
    ·obtain⟨f,hf⟩:=CP_ (H0:=H0) (l:=l) (n:=zs.length) (o:=k+1) (n2:=zs.length-(k+1)) (Q:=Q) hb hlim o_ (λj H' h1 h2=>hQ _ j H' h1 ⟨λe=>by omega,λq=>(q k hkn he.symm).elim⟩)
      _ 1 (k+1) H zs rfl o_ o_ o_ o_ h0 hrow rfl
     refine⟨f+1,?_⟩;rw[ar_.l4_eq,az_ hlt,af_,hI.rd (k+1) rfl hkn,af_,hI.rd k (d9_ o_) o_,az_ (by simpa using he),af_];refine ab_ s_ (ab_ s_ ?_);simp only[CB_,Int.toNat_natCast,Nat.mul_one,v2_,kN];exact hf
    ·obtain⟨f,hf⟩:=ih (k+1) o_ o_ (λi hi hik=>by
      by_cases e:i=k
      .subst e;exact λq=>he q.symm
      .exact hne i hi o_)
     refine⟨f+1,?_⟩;rw[ar_.l4_eq,az_ hlt,af_,hI.rd (k+1) rfl hkn,af_,hI.rd k (d9_ o_) o_,aA_ (by simpa using he),an_ o_];exact hf
   .refine⟨1,?_⟩;rw[ar_.l4_eq,aA_ s_];exact hQ _ _ _ h0 ⟨λ_ i hi=>hne i hi o_,λ_=>rfl⟩
 by_cases h2:zs.length<2
 .refine⟨1,?_⟩;rw[eI_,az_ s_];exact hQ _ _ _ h0 ⟨λ_ i hi=>by omega,λ_=>rfl⟩
 .obtain⟨f,hf⟩:=loop _ 0 rfl o_ (λi hi h=>by omega);refine⟨f+1,?_⟩;rw[eI_,aA_ s_];exact hf
theorem y2_ {zs:List Int}:Ir_ (zs.mergeSort λx y=>decide (x<=y))↔zs.Nodup:=by
 have G:=mergeSort_perm zs λx y=>decide (x<=y);have A:(zs.mergeSort λx y=>decide (x<=y)).Pairwise λx y=>x<=y:=by
  have:=pairwise_mergeSort (le:=λ(x y:Int)=>decide (x<=y)) (λa b c D C=>by grind) (λa b=>by simp;omega) zs;grind
 rw[<-G.nodup_iff];generalize (zs.mergeSort λx y=>decide (x<=y))=ws at A;constructor
 ·intro h;rw[Nodup,kS];have key:∀d i,(r:i+d+1<ws.length)->ws[i]'o_<ws[i+d+1]:=by
   intro d;induction d with
   |zero=>
    intro i r;have D:=(kS.1 A) i (i+1) o_ o_ o_;have C:=h i o_;grind
   |succ d F=>
    intro i r;have D:=F i o_;have C:=(kS.1 A) (i+d+1) (i+(d+1)+1) o_ o_ o_;omega
  intro i j r J I;obtain⟨d,rfl⟩:∃d,j=i+d+1:=⟨j-i-1,o_⟩;grind
 .exact λh i r=>(kS.1 h) i (i+1) o_ o_ o_
theorem si_ (h:Is H a n zs) (U:∀b H',H<+:H'->(b=true↔zs.Nodup)->Q (gB b) H'):go_ E [nL a n 1] H Q:=by
 refine⟨1,?_⟩;rw[we_];refine⟨1,⟨1,?_⟩⟩;rw[ni_];refine⟨1,?_⟩;rw[mM_];have C:=h.len;have G:=h.lim;have J:=bU_ H (.row true tIs [.sl a n 1]);refine⟨H.length,tIs,[.sl a n 1],a,n,zs,rfl,t_,rfl,(h.mono J).cells,by unfold Lim;omega,λI=>?_,λI=>?_⟩
 .simp[aO_];refine .inl ⟨rfl,⟨1,?_⟩⟩;rw[eI_,az_ t_];simp_all
 ·simp only[aO_,ah_];refine .inr ⟨(H++[Obj.row true tIs [.sl a n 1]]).length,zs,rfl,I,by unfold Lim;omega,t_,?_⟩;have e:((H++[Obj.row true tIs [.sl a n 1]])++[Obj.row true tI (zs.map (GV.int .i64))]).set (H++[Obj.row true tIs [.sl a n 1]]).length (Obj.row true tI ((zs.mergeSort λx y=>decide (x<=y)).map (GV.int .i64)))=
   (H++[Obj.row true tIs [.sl a n 1]])++[Obj.row true tI ((zs.mergeSort λx y=>decide (x<=y)).map (GV.int .i64))]:=by
   grind
  simp only[e3_];rw[e];have A:(zs.mergeSort λx y=>decide (x<=y)).length=zs.length:=by simp
  have key:=zN_ (H:=(H++[Obj.row true tIs [.sl a n 1]])++[Obj.row true tI ((zs.mergeSort λx y=>decide (x<=y)).map (GV.int .i64))]) (l:=(H++[Obj.row true tIs [.sl a n 1]]).length)
   (zs:=zs.mergeSort λx y=>decide (x<=y)) (J.trans (prefix_append _ _)) t_ t_ o_
   (Q:=λW V=>rG W λD=>dL 1 D λO F=>Q (gB (eqI (nI F) (nI n))) V) (λZ j H' N Y=>by
    simp[aO_];refine U _ _ N ?_;rw[<-y2_,<-Y,A,<-C];simp;omega)
  rw[A]at key;exact key
structure Pg where
 used:Bool
 leaf:Bool
 keys:List Y_
 vals:List Y_
 kids:List Int
structure ke_(H:Hp)(u l:Bool)(a1:Pl)(n1:Nat)(a2:Pl)(n2:Nat)(a3:Pl)(n3:Nat)(p:Pg):Prop where
 used:p.used=u
 leaf:p.leaf=l
 keys:Ss H a1 n1 p.keys
 vals:Ss H a2 n2 p.vals
 kids:Is H a3 n3 p.kids
theorem ke_.mono{H H':Hp}(r:H<+:H')(h:ke_ H u l a1 n1 a2 n2 a3 n3 p):ke_ H' u l a1 n1 a2 n2 a3 n3 p:=
 ⟨h.used,h.leaf,h.keys.mono r,h.vals.mono r,h.kids.mono r⟩
structure iR_(p:Pg):Prop where
 used:p.used=true
 rising:ir_ p.keys
 keys:∀k∈p.keys,1<=k.size/\k.size<=6
 leaf:p.leaf=true->p.vals.length=p.keys.length/\p.kids=[]/\∀v∈p.vals,v.size<=10
 inner:p.leaf=false->1<=p.keys.length/\p.vals=[]/\p.kids.length=p.keys.length+1/\(∀k∈p.kids,1<=k/\k<48)/\p.kids.Nodup
def fa_(p:Pg):Prop:=p.keys.length<=4/\iR_ p
section
variable{H:Hp}{Q:Post}{u l:Bool}{a1:Pl}{n1:Nat}{a2:Pl}{n2:Nat}{a3:Pl}{n3:Nat}{p:Pg}
theorem ol_ (h:ke_ H u l a1 n1 a2 n2 a3 n3 p) (hQ:∀b H',H<+:H'->(b=true↔iR_ p)->Q (gB b) H'):
 hB_ [.agg [.bool u,.bool l,.sl a1 n1 1,.sl a2 n2 1,.sl a3 n3 1]] H Q:=by
 obtain⟨hu,hl,hk,hv,hi⟩:=h;have n1e:=hk.len;have n2e:=hv.len;have n3e:=hi.len;have l1:=hk.lim;have l3:=hi.lim;have EK:∀(s:Y_)(H:Hp)(Q:Post),Q (gB (decide (1<=s.size)&&decide (s.size<=6))) H->cO_ [(Hf_,dm_),(Hz_,cn_),(Hc_,dI_)] Hf_ [gS s] H Q:=
  λs H Q q=>by rw[oQ_];exact pp_ q
 have EV:∀(s:Y_)(H:Hp)(Q:Post),Q (gB (decide (s.size<=10))) H->cO_ [(Hf_,dm_),(Hz_,cn_),(Hc_,dI_)] Hz_ [gS s] H Q:=
  λs H Q q=>by rw[p7_ d_,oQ_];exact mu_ q
 have EI:∀(s:Int)(H:Hp)(Q:Post),Q (gB (decide (1<=s)&&decide (s<48))) H->cO_ [(Hf_,dm_),(Hz_,cn_),(Hc_,dI_)] Hc_ [gI s] H Q:=
  λs H Q q=>by rw[p7_ d_,p7_ d_,oQ_];exact xp_ q
 refine⟨1,?_⟩;rw[zV_];refine aa_ (λe=>hQ _ _ (k8 _) ⟨λq=>(by cases q),λq=>?_⟩) λe=>?_
 .rw[<-hu,q.used]at e;cases e
 refine s5_ hk λb hb=>?_;simp only[aO_,am_];refine aa_ (λe1=>hQ _ _ (k8 _) ⟨λq=>(by cases q),λq=>?_⟩) λe1=>?_
 .rw[hb.2 q.rising]at e1;cases e1
 refine iX_ EK hk λb2 H2 p2 hb2=>?_;simp only[aO_,am_];have hkeys:(∀k∈p.keys,1<=k.size/\k.size<=6)↔∀s∈p.keys,(decide (1<=s.size)&&decide (s.size<=6))=true:=by simp
 refine aa_ (λe2=>hQ _ _ p2 ⟨λq=>(by cases q),λq=>?_⟩) λe2=>?_
 .rw[hb2.2 (hkeys.1 q.keys)]at e2;cases e2
 have hR:ir_ p.keys:=hb.1 (by cases b<;>simp_all);have hK:=hkeys.2 (hb2.1 (by cases b2<;>simp_all));have hU:p.used=true:=by rw[hu];cases u<;>simp_all
 refine aa_ (λe3=>?_) λe3=>?_
 .have hL:p.leaf=true:=by rw[hl];exact e3
  refine aa_ (λe4=>?_) λe4=>hQ _ _ p2 ⟨λq=>(by cases q),λq=>?_⟩
  rotate_left
  .have:=(q.leaf hL).1;simp at e4;omega
  refine aa_ (λe5=>?_) λe5=>hQ _ _ p2 ⟨λq=>(by cases q),λq=>?_⟩
  rotate_left
  .have:=(q.leaf hL).2.1;simp[this]at n3e;simp at e5;omega
  refine iX_ EV (hv.mono p2) λb3 H3 p3 hb3=>?_;simp only[aO_,am_];refine hQ _ _ (p2.trans p3) (hb3.trans ⟨λq=>⟨hU,hR,hK,λ_=>⟨?_,?_,by simpa using q⟩,λq=>(by rw[hL]at q;cases q)⟩,λq=>by simpa using (q.leaf hL).2.2⟩)
  .simp at e4;omega
  .simp at e5;exact eq_nil_of_length_eq_zero o_
 .have hL:p.leaf=false:=by rw[hl];exact e3
  refine aa_ (λe4=>?_) λe4=>hQ _ _ p2 ⟨λq=>(by cases q),λq=>?_⟩
  rotate_left
  .have:=(q.inner hL).1;simp at e4;omega
  refine aa_ (λe5=>?_) λe5=>hQ _ _ p2 ⟨λq=>(by cases q),λq=>?_⟩
  rotate_left
  .have:=(q.inner hL).2.1;simp[this]at n2e;simp at e5;omega
  refine aa_ (λe6=>?_) λe6=>hQ _ _ p2 ⟨λq=>(by cases q),λq=>?_⟩
  rotate_left
  .have:=(q.inner hL).2.2.1;simp only[i3_]at e6;rw[an_ o_]at e6;simp at e6;omega
  simp only[i3_]at e6;rw[an_ o_]at e6;refine qJ_ EI (hi.mono p2) λb3 H3 p3 hb3=>?_;simp only[aO_,am_];refine aa_ (λe7=>?_) λe7=>hQ _ _ (p2.trans p3) ⟨λq=>(by cases q),λq=>?_⟩
  rotate_left
  .rw[hb3.2 (by simpa using (q.inner hL).2.2.2.1)]at e7;cases e7
  refine si_ (hi.mono (p2.trans p3)) λb4 H4 p4 hb4=>?_;simp only[aO_,am_];refine hQ _ _ ((p2.trans p3).trans p4) (hb4.trans ⟨λq=>⟨hU,hR,hK,λq=>(by rw[hL]at q;cases q),λ_=>⟨?_,?_,?_,by simpa using hb3.1 e7,q⟩⟩,λq=>(q.inner hL).2.2.2.2⟩)
  .simp at e4;omega
  .simp at e5;exact eq_nil_of_length_eq_zero o_
  .simp at e6;omega
theorem ix_(h:ke_ H u l a1 n1 a2 n2 a3 n3 p)(r:∀b H',H<+:H'->(b=true↔fa_ p)->Q (gB b) H'):
 g8_ [.agg [.bool u,.bool l,.sl a1 n1 1,.sl a2 n2 1,.sl a3 n3 1]] H Q:=by
 have D:=h.keys.len;refine⟨1,aa_ (λe=>?_) λe=>r _ _ (k8 _) ⟨λq=>g_,λq=>?_⟩⟩
 .refine ol_ h λb H' A C=>?_;simp at e;exact r _ _ A (C.trans ⟨λq=>⟨o_,q⟩,λq=>q.2⟩)
 .have:=q.1;simp at e;omega
theorem gR_ {xs:List Y_} (h:Ss H a1 n1 xs) (hQ:∀b,(b=true↔(ir_ xs/\∀k∈xs,1<=k.size/\k.size<=6))->Q (gB b) H):bT_ [nL a1 n1 1] H Q:=by
 have hn:=h.len;have hlim:=h.lim;have loop:∀m k:Nat,xs.length-k=m->k<=xs.length->(∀i,(hi:i<xs.length)->i<k->1<=xs[i].size/\xs[i].size<=6)->(∀i,(hi:i+1<xs.length)->i+1<k->dE_ (xs[i]'o_) xs[i+1]=true)->
  ∃f,bT_.l2 f a1 n1 (k:Int) H Q:=by
  intro m;induction m with
  |zero=>
   intro k hm hle h1 h2;refine⟨1,?_⟩;rw[bT_.l2_eq,aA_ s_];exact hQ true ⟨λ_=>⟨λi hi=>h2 i hi o_,λs hs=>by obtain⟨i,hi,rfl⟩:=kK hs;exact h1 i hi o_⟩,λ_=>rfl⟩
  | succ m ih=>
   intro k hm hle h1 h2;have hkn:k<xs.length:=by omega
   have hlt:ltI (k:Int) (nI n1)=true:=by simp;omega
   by_cases c1:xs[k].size<1
   .refine⟨1,?_⟩;rw[bT_.l2_eq,az_ hlt,af_,h.rd k rfl hkn,az_ s_];exact hQ false ⟨λq=>(by cases q),λq=>by have:=(q.2 _ (kE hkn)).1;omega⟩
   by_cases c2:6<xs[k].size
   .refine⟨1,?_⟩;rw[bT_.l2_eq,az_ hlt,af_,h.rd k rfl hkn,aA_ s_,af_,h.rd k rfl hkn,az_ s_];exact hQ false ⟨λq=>(by cases q),λq=>by have:=(q.2 _ (kE hkn)).2;omega⟩
   have h1':∀i,(hi:i<xs.length)->i<k+1->1<=xs[i].size/\xs[i].size<=6:=λi hi hik=>by
    by_cases e:i=k
    .subst e;omega
    .exact h1 i hi o_
   cases k with
   |zero=>
    obtain⟨f,hf⟩:=ih 1 o_ o_ h1' (λi hi h=>by omega);refine⟨f+1,?_⟩;rw[bT_.l2_eq,az_ hlt,af_,h.rd 0 rfl hkn,aA_ s_,af_,h.rd 0 rfl hkn,aA_ s_,aA_ t_,an_ o_];exact hf
   | succ k=>
    cases hs:dE_ (xs[k]'o_) xs[k+1] with
    | true=>
     obtain⟨f,hf⟩:=ih (k+1+1) o_ o_ h1' (λi hi hik=>by
      by_cases e:i=k
      .subst e;exact hs
      .exact h2 i hi o_)
     refine⟨f+1,?_⟩;rw[bT_.l2_eq,az_ hlt,af_,h.rd (k+1) rfl hkn,aA_ s_,af_,h.rd (k+1) rfl hkn,aA_ s_,az_ (by simp<;>omega),af_,h.rd (k+1) rfl hkn,af_,
      h.rd k (d9_ o_) o_,aA_ (by rw[x8_]at hs;simpa using hs),an_ o_]
     exact hf
    | false=>
     refine⟨1,?_⟩;rw[bT_.l2_eq,az_ hlt,af_,h.rd (k+1) rfl hkn,aA_ s_,af_,h.rd (k+1) rfl hkn,aA_ s_,az_ (by simp<;>omega),af_,h.rd (k+1) rfl hkn,af_,
      h.rd k (d9_ o_) o_,az_ (by rw[x8_]at hs;rw[oH_];rw[Bool.not_eq_false']at hs;exact hs)]
     exact hQ false ⟨λq=>(by cases q),λq=>by rw[q.1 k hkn]at hs;cases hs⟩
 obtain⟨f,hf⟩:=loop _ 0 rfl (kP _) (λi hi h=>by omega) (λi hi h=>by omega);exact⟨f+1,by rw[v0_];exact hf⟩
theorem pP_ {most:Nat} (hmost:most<=1000) (h:ke_ H u l a1 n1 a2 n2 a3 n3 p) (hQ:∀b,(b=true↔(p.keys.length<=most/\iR_ p))->Q (gB b) H):
 aJ_ [.agg [.bool u,.bool l,.sl a1 n1 1,.sl a2 n2 1,.sl a3 n3 1],gI most] H Q:=by
 obtain⟨hu,hl,hk,hv,hi⟩:=h;have n1e:=hk.len;have n2e:=hv.len;have n3e:=hi.len;have l1:=hk.lim;have l2:=hv.lim;have l3:=hi.lim;have leafs:p.leaf=true->(∀b,(b=true↔(p.vals.length=p.keys.length/\p.kids=[]/\∀v∈p.vals,v.size<=10))->Q (gB b) H)->∀m k:Nat,p.vals.length-k=m->k<=p.vals.length->(∀i,(hi:i<p.vals.length)->i<k->(p.vals[i]).size<=10)->
  ∃f,aJ_.l5 f u l a1 n1 a2 n2 a3 n3 (k:Int) H Q:=by
  intro hL hQ' m;induction m with
  |zero=>
   intro k hm hle h1;refine⟨1,?_⟩;rw[aJ_.l5_eq,aA_ s_];have hall:∀v∈p.vals,v.size<=10:=λs hs=>by obtain⟨i,hi,rfl⟩:=kK hs;exact h1 i hi o_
   refine aa_ (λe=>hQ' _ ?_) λe=>hQ' _ ⟨λq=>(by cases q),λq=>?_⟩
   .simp at e ⊢;refine⟨λq=>⟨o_,eq_nil_of_length_eq_zero o_,hall⟩,λq=>?_⟩;have:=q.2.1;rw[this]at n3e;exact n3e
   .have:=q.1;simp at e;omega
  | succ m ih=>
   intro k hm hle h1;have hkn:k<p.vals.length:=by omega
   have hlt:ltI (k:Int) (nI n2)=true:=by simp;omega
   by_cases c1:10<(p.vals[k]).size
   .refine⟨1,?_⟩;rw[aJ_.l5_eq,az_ hlt,af_,hv.rd k rfl hkn,az_ s_];exact hQ' false ⟨λq=>(by cases q),λq=>by have:=q.2.2 _ (kE hkn);omega⟩
   ·obtain⟨f,hf⟩:=ih (k+1) o_ o_ (λi hi hik=>by
     by_cases e:i=k
     .subst e;omega
     .exact h1 i hi o_)
    refine⟨f+1,?_⟩;rw[aJ_.l5_eq,az_ hlt,af_,hv.rd k rfl hkn,aA_ s_,an_ o_];exact hf
 have inners:p.leaf=false->(∀b,(b=true↔(1<=p.keys.length/\p.vals=[]/\p.kids.length=p.keys.length+1/\(∀k∈p.kids,1<=k/\k<48)/\p.kids.Nodup))->Q (gB b) H)->∀m k:Nat,p.kids.length-k=m->k<=p.kids.length->
  (∀i,(hi:i<p.kids.length)->i<k->1<=p.kids[i]/\p.kids[i]<48)->(∀i j,(hj:j<p.kids.length)->(hij:i<j)->j<k->p.kids[i]'o_≠p.kids[j])->
  ∃f,aJ_.l11 f u l a1 n1 a2 n2 a3 n3 (k:Int) H Q:=by
  intro hL hQ' m;induction m with
  | zero=>
   intro k hm hle h1 h2;refine⟨1,?_⟩;rw[aJ_.l11_eq,aA_ s_];have hall:∀v∈p.kids,1<=v/\v<48:=λs hs=>by obtain⟨i,hi,rfl⟩:=kK hs;exact h1 i hi o_
   have hnd:p.kids.Nodup:=by
    rw[Nodup,kS];exact λi j _ hj hij=>h2 i j hj hij o_
   refine aa_ (λe=>?_) λe=>hQ' _ ⟨λq=>(by cases q),λq=>?_⟩
   rotate_left
   .have:=q.1;simp at e;omega
   refine aa_ (λe2=>hQ' _ ?_) λe2=>hQ' _ ⟨λq=>(by cases q),λq=>?_⟩
   rotate_left
   .have:=q.2.1;rw[this]at n2e;simp at e2 n2e;omega
   simp only[i3_];rw[an_ o_];simp at e e2 ⊢;exact⟨λq=>⟨o_,eq_nil_of_length_eq_zero o_,o_,hall,hnd⟩,λq=>by have:=q.2.2.1;omega⟩
  | succ m ih=>
   intro k hm hle h1 h2;have hkn:k<p.kids.length:=by omega
   have hlt:ltI (k:Int) (nI n3)=true:=by simp;omega
   by_cases c1:p.kids[k]<1
   .refine⟨1,?_⟩;rw[aJ_.l11_eq,az_ hlt,af_,hi.rd k rfl hkn,az_ (by simpa using c1)];exact hQ' false ⟨λq=>(by cases q),λq=>by have:=q.2.2.2.1 _ (kE hkn);omega⟩
   by_cases c2:48<=p.kids[k]
   .refine⟨1,?_⟩;rw[aJ_.l11_eq,az_ hlt,af_,hi.rd k rfl hkn,aA_ (by simpa using c1),af_,hi.rd k rfl hkn,az_ (by simpa using c2)];exact hQ' false ⟨λq=>(by cases q),λq=>by have:=q.2.2.2.1 _ (kE hkn);omega⟩
   have loop:∀m' j:Nat,k-j=m'->j<=k->(∀i,(hi:i<j)->(hi2:i<k)->p.kids[i]'o_≠p.kids[k])->∃f,aJ_.l16 f u l a1 n1 a2 n2 a3 n3 (k:Int) (j:Int) H Q:=by
    intro m';induction m' with
    | zero=>
     intro j hj hjk h3;obtain⟨f,hf⟩:=ih (k+1) o_ o_
      (λi hi hik=>by
       by_cases e:i=k
       .subst e;omega
       .exact h1 i hi o_)
      (λi j' hj' hij hjk'=>by
       by_cases e:j'=k
       .subst e;exact h3 i o_ hij
       .exact h2 i j' hj' hij o_)
     refine⟨f+1,?_⟩;rw[aJ_.l16_eq,aA_ s_,an_ o_];exact hf
    | succ m' ih'=>
     intro j hj hjk h3;have hjn:j<p.kids.length:=by omega
     by_cases e:p.kids[j]=p.kids[k]
     .refine⟨1,?_⟩;rw[aJ_.l16_eq,az_ s_,af_,hi.rd j rfl hjn,af_,hi.rd k rfl hkn,az_ (by simpa using e)];refine hQ' false ⟨λq=>(by cases q),λq=>?_⟩;exact ((kS.1 q.2.2.2.2) j k hjn hkn o_ e).elim
     ·obtain⟨f,hf⟩:=ih' (j+1) o_ o_ (λi hi hi2=>by
       by_cases e':i=j
       .subst e';exact e
       .exact h3 i o_ hi2)
      refine⟨f+1,?_⟩;rw[aJ_.l16_eq,az_ s_,af_,hi.rd j rfl hjn,af_,hi.rd k rfl hkn,aA_ (by simpa using e),an_ o_];exact hf
   obtain⟨f,hf⟩:=loop _ 0 rfl (kP _) (λi hi=>by omega);refine⟨f+1,?_⟩;rw[aJ_.l11_eq,az_ hlt,af_,hi.rd k rfl hkn,aA_ (by simpa using c1),af_,hi.rd k rfl hkn,aA_ (by simpa using c2)];exact hf
 by_cases cu:u=true
 rotate_left
 .refine⟨1,?_⟩;rw[fF_,az_ (by cases u<;>simp_all)];exact hQ _ ⟨λq=>(by cases q),λq=>by have:=q.2.used;rw[hu]at this;exact (cu this).elim⟩
 by_cases cr:ir_ p.keys/\∀k∈p.keys,1<=k.size/\k.size<=6
 rotate_left
 .refine⟨1,?_⟩;rw[fF_,aA_ (by rw[cu];rfl)];refine gR_ hk λb hb=>?_;simp only[aO_,am_];rw[az_ (by cases b with|false=>rfl|true=>exact (cr (hb.1 rfl)).elim)];exact hQ _ ⟨λq=>(by cases q),λq=>(cr ⟨q.2.rising,q.2.keys⟩).elim⟩
 by_cases cm:n1<=most
 rotate_left
 .refine⟨1,?_⟩;rw[fF_,aA_ (by rw[cu];rfl)];refine gR_ hk λb hb=>?_;simp only[aO_,am_];rw[aA_ (by rw[hb.2 cr];rfl),az_ s_];exact hQ _ ⟨λq=>(by cases q),λq=>by have:=q.1;omega⟩
 cases hL:p.leaf with
 |true=>
  obtain⟨f,hf⟩:=leafs hL (λb hb=>hQ b (hb.trans ⟨λq=>⟨o_,by rw[hu];exact cu,cr.1,cr.2,λ_=>q,λe=>(by rw[hL]at e;cases e)⟩,λq=>q.2.leaf hL⟩)) _ 0 rfl (kP _) (λi hi h=>by omega);refine⟨f+1,?_⟩;rw[fF_,aA_ (by rw[cu];rfl)];refine gR_ hk λb hb=>?_;simp only[aO_,am_];rw[aA_ (by rw[hb.2 cr];rfl),aA_ s_,az_ (by rw[<-hl];exact hL)];exact hf
 |false=>
  obtain⟨f,hf⟩:=inners hL (λb hb=>hQ b (hb.trans ⟨λq=>⟨o_,by rw[hu];exact cu,cr.1,cr.2,λe=>(by rw[hL]at e;cases e),λ_=>q⟩,λq=>q.2.inner hL⟩)) _ 0 rfl (kP _) (λi hi h=>by omega) (λi j hj hij h=>by omega);refine⟨f+1,?_⟩;rw[fF_,aA_ (by rw[cu];rfl)];refine gR_ hk λb hb=>?_;simp only[aO_,am_];rw[aA_ (by rw[hb.2 cr];rfl),aA_ s_,aA_ (by rw[<-hl];exact hL)];exact hf
theorem re_(h:ke_ H u l a1 n1 a2 n2 a3 n3 p)(A:∀b,(b=true↔fa_ p)->Q (gB b) H):
 gJ_ [.agg [.bool u,.bool l,.sl a1 n1 1,.sl a2 n2 1,.sl a3 n3 1]] H Q:=⟨1,pP_ (most:=4) o_ h λb C=>A b C⟩
end
theorem lx_{α:Type}{l:List α}{x:α}(h:l[i]?=some x):l.set i x=l:=by
 apply ext_getElem?;grind
def Dj(a b:Pl):Prop:=∀l,a=some (l,0)->b≠some (l,0)
theorem Dj.symm(h:Dj a b):Dj b a:=λl r A=>h l A r
theorem Own.lt'(h:Own H b t a n cs)(e:a=some (l,0)):l<H.length:=by subst e;exact h.lt
theorem Own.after(h:Own H b t a n cs)(A:Dj a0 a)(r:Ex H0 a0 H H'):Own H' b t a n cs:=
 h.keep λl e=>r.row l (h.lt' e) λC=>A l C e
theorem Dj.fresh{a r:Pl}(h:Own H b t a n cs)(D:∀l o,r=some (l,o)->H.length<=l):Dj r a:=λl C A=>by
 have:=D l 0 C;have:=h.lt' A;omega
theorem Own.set(h:Own H b t a n cs)(r:a≠some (l,0))(x:Obj):Own (H.set l x) b t a n cs:=
 h.keep λA e=>by grind
structure ez_(H:Hp)(b:Nat)(u l:Bool)(a1:Pl)(n1:Nat)(a2:Pl)(n2:Nat)(a3:Pl)(n3:Nat)(p:Pg):Prop where
 used:p.used=u
 leaf:p.leaf=l
 keys:Own H b tS a1 n1 (p.keys.map GV.str)
 vals:Own H b tS a2 n2 (p.vals.map GV.str)
 kids:Own H b tI a3 n3 (p.kids.map (GV.int .i64))
 d12:Dj a1 a2
 d13:Dj a1 a3
 d23:Dj a2 a3
 small:n1<=1000/\n2<=1000/\n3<=1000
theorem ez_.at(h:ez_ H b u l a1 n1 a2 n2 a3 n3 p):ke_ H u l a1 n1 a2 n2 a3 n3 p:=by
 have⟨D,F,A,C,r,_,_,_,s⟩:=h;refine⟨D,F,⟨A.cells,?_,o_⟩,⟨C.cells,?_,o_⟩,⟨r.cells,?_,o_⟩⟩
 .have:=A.len;simpa using this.symm
 .have:=C.len;simpa using this.symm
 .have:=r.len;simpa using this.symm
theorem Own.mono{H H':Hp}(r:H<+:H')(h:Own H b t a n cs):Own H' b t a n cs:=h.keep λl e=>aS_ r (h.lt' e)
theorem ez_.mono{H H':Hp}(r:H<+:H')(h:ez_ H b u l a1 n1 a2 n2 a3 n3 p):ez_ H' b u l a1 n1 a2 n2 a3 n3 p:=
 ⟨h.used,h.leaf,h.keys.mono r,h.vals.mono r,h.kids.mono r,h.d12,h.d13,h.d23,h.small⟩
def noPg:Pg:=⟨false,false,[],[],[]⟩
theorem FC_(H:Hp)(b:Nat):ez_ H b false false none 0 none 0 none 0 noPg:=
 ⟨rfl,rfl,.inl ⟨rfl,rfl,rfl⟩,.inl ⟨rfl,rfl,rfl⟩,.inl ⟨rfl,rfl,rfl⟩,λ_ e=>t_,λ_ e=>t_,λ_ e=>t_,o_⟩
theorem Eg_(H:Hp):ke_ H false false none 0 none 0 none 0 noPg:=(FC_ H 0).at
theorem c6_(h:Q (gI n) H):en_ [gI n] H Q:=⟨1,h⟩
section
variable{H:Hp}{Q:Post}{a1 a2:Pl}{n1 n2:Nat}
end
section
variable{H:Hp}{Q:Post}{u l:Bool}{a1:Pl}{n1:Nat}{a2:Pl}{n2:Nat}{a3:Pl}{n3:Nat}{p:Pg}{u' l':Bool}{a1':Pl}{n1':Nat}{a2':Pl}{n2':Nat}{a3':Pl}{n3':Nat}{q:Pg}
end
theorem Own.wr{H0 H:Hp}(F:H0<+:H)(h:Own H H0.length t a n cs)(k:Nat){i:Int}(hi:i=k)(O:k<n)
 (I:∀H',Own H' H0.length t a n (cs.set k v)->Ex H0 a H H'->K H'):chk (leI 0 i&&ltI i (nI n)) (pS a λC D=>Am.wr H C (D+tN i*1) v K):=by
 subst hi;refine ab_ (by simp_all) ?_;rcases h with⟨_,rfl,_⟩|⟨l,rfl,A,r,N⟩
 .omega
 .simp[ae_];rw[rK_ r o_];refine I _ (.inr ⟨l,rfl,A,kH (kC.1 r).1,g_⟩) ⟨dH_ F A _,t_,λJ _ G=>?_⟩;grind
theorem Ex.trans(h:Ex H0 a H H1)(A:Ex H0 a H1 H2):Ex H0 a H H2:=
 ⟨A.pre,Nat.le_trans h.len A.len,λl C r=>(A.row l (Nat.lt_of_lt_of_le C h.len) r).trans (h.row l C r)⟩
theorem Ex.refl{H0 H:Hp}(h:H0<+:H):Ex H0 a H H:=⟨h,kO _,λ_ _ _=>rfl⟩
section
variable{H0 H:Hp}{u l:Bool}{a1:Pl}{n1:Nat}{a2:Pl}{n2:Nat}{a3:Pl}{n3:Nat}{p:Pg}
theorem ez_.setKey(h:ez_ H H0.length u l a1 n1 a2 n2 a3 n3 p)(D:H0<+:H)(k:Nat){i:Int}(hi:i=k)(r:k<n1)(s:Y_)
 (F:∀H',H0<+:H'->ez_ H' H0.length u l a1 n1 a2 n2 a3 n3 { p with keys:=p.keys.set k s }->K H'):chk (leI 0 i&&ltI i (nI n1)) (pS a1 λA C=>Am.wr H A (C+tN i*1) (.str s) K):=
 h.keys.wr D k hi r λH' o x=>F H' x.pre ⟨h.used,h.leaf,by simp_all,h.vals.after h.d12 x,h.kids.after h.d13 x,h.d12,h.d13,h.d23,h.small⟩
theorem ez_.setVal(h:ez_ H H0.length u l a1 n1 a2 n2 a3 n3 p)(D:H0<+:H)(k:Nat){i:Int}(hi:i=k)(r:k<n2)(s:Y_)
 (F:∀H',H0<+:H'->ez_ H' H0.length u l a1 n1 a2 n2 a3 n3 { p with vals:=p.vals.set k s }->K H'):chk (leI 0 i&&ltI i (nI n2)) (pS a2 λA C=>Am.wr H A (C+tN i*1) (.str s) K):=
 h.vals.wr D k hi r λH' o x=>F H' x.pre ⟨h.used,h.leaf,h.keys.after h.d12.symm x,by simp_all,h.kids.after h.d23 x,h.d12,h.d13,h.d23,h.small⟩
theorem ez_.addKeys(h:ez_ H H0.length u l a1 n1 a2 n2 a3 n3 p)(C:H0<+:H)(xs:List Y_)(D:cs=xs.map GV.str)(A:m=xs.length)(G:n1+m<=1000)
 (F:∀r H',H0<+:H'->ez_ H' H0.length u l r (n1+m) a2 n2 a3 n3 { p with keys:=p.keys++xs }->K r (n1+m) H'):ap H tS 1 16 a1 n1 cs m K:=by
 subst D;subst A;refine kN_ C h.keys t_ (by unfold Lim;omega) λr H' o x f=>F r H' x.pre ?_;have:=h.small;exact⟨h.used,h.leaf,g_,h.vals.after h.d12 x,h.kids.after h.d13 x,Dj.fresh h.vals f,Dj.fresh h.kids f,h.d23,o_⟩
theorem ez_.addVals(h:ez_ H H0.length u l a1 n1 a2 n2 a3 n3 p)(C:H0<+:H)(xs:List Y_)(D:cs=xs.map GV.str)(A:m=xs.length)(G:n2+m<=1000)
 (F:∀r H',H0<+:H'->ez_ H' H0.length u l a1 n1 r (n2+m) a3 n3 { p with vals:=p.vals++xs }->K r (n2+m) H'):ap H tS 1 16 a2 n2 cs m K:=by
 subst D;subst A;refine kN_ C h.vals t_ (by unfold Lim;omega) λr H' o x f=>F r H' x.pre ?_;have:=h.small;exact⟨h.used,h.leaf,h.keys.after h.d12.symm x,g_,h.kids.after h.d23 x,(Dj.fresh h.keys f).symm,h.d13,Dj.fresh h.kids f,o_⟩
theorem ez_.addKids(h:ez_ H H0.length u l a1 n1 a2 n2 a3 n3 p)(C:H0<+:H)(xs:List Int)(D:cs=xs.map (GV.int .i64))(A:m=xs.length)(G:n3+m<=1000)
 (F:∀r H',H0<+:H'->ez_ H' H0.length u l a1 n1 a2 n2 r (n3+m) { p with kids:=p.kids++xs }->K r (n3+m) H'):ap H tI 1 8 a3 n3 cs m K:=by
 subst D;subst A;refine kN_ C h.kids t_ (by unfold Lim;omega) λr H' o x f=>F r H' x.pre ?_;have:=h.small;exact⟨h.used,h.leaf,h.keys.after h.d13.symm x,h.vals.after h.d23.symm x,g_,h.d12,(Dj.fresh h.keys f).symm,(Dj.fresh h.vals f).symm,o_⟩
end
def kK_(H:Hp)(lo hi:Nat)(t:TypeId)(a:Pl)(n:Nat)(cs:List GV):Prop:=
 (a=none/\n=0/\cs=[])\/∃l o ds,a=some (l,o)/\lo<=l/\l<hi/\H[l]?=some (.row true t ds)/\o+n<=ds.length/\(ds.drop o).take n=cs
def Dr(a b:Pl):Prop:=∀l o o',a=some (l,o)->b≠some (l,o')
structure Ch(lo hi:Nat)(H H':Hp):Prop where
 len:H.length<=H'.length
 row:∀l,l<H.length-> ¬ (lo<=l/\l<hi)->H'[l]?=H[l]?
theorem Ch.trans(h:Ch lo hi H H1)(C:Ch lo hi H1 H2):Ch lo hi H H2:=
 ⟨Nat.le_trans h.len C.len,λl r A=>(C.row l (Nat.lt_of_lt_of_le r h.len) A).trans (h.row l r A)⟩
theorem Ch.refl(lo hi:Nat)(H:Hp):Ch lo hi H H:=⟨kO _,λ_ _ _=>rfl⟩
theorem Ch.of_pre{H H':Hp}(h:H<+:H'):Ch lo hi H H':=⟨h.length_le,λl r _=>aS_ h r⟩
theorem Ch.pre{H0 H H':Hp}(h:Ch lo hi H H')(r:H0<+:H)(A:H0.length<=lo):H0<+:H':=by
 rw[prefix_iff_eq_take];apply ext_getElem?;intro i;rw[getElem?_take];split
 .rename_i hi;rw[h.row i (Nat.lt_of_lt_of_le hi r.length_le) o_,aS_ r hi]
 .grind
section
variable{H H':Hp}{lo hi:Nat}{t:TypeId}{a:Pl}{n:Nat}{cs:List GV}
theorem kK_.keep(h:kK_ H lo hi t a n cs)(G:∀l o,a=some (l,o)->H'[l]?=H[l]?):kK_ H' lo hi t a n cs:=by
 rcases h with h|⟨l,o,C,rfl,A,F,I,D,r⟩
 .exact .inl h
 .exact .inr ⟨l,o,C,rfl,A,F,g_,D,r⟩
theorem kK_.lt(h:kK_ H lo hi t a n cs)(e:a=some (l,o)):l<H.length/\lo<=l/\l<hi:=by
 rcases h with⟨h,_⟩|⟨r,G,D,C,A,I,F,_⟩
 .grind
 .grind
theorem kK_.mono(h:kK_ H lo hi t a n cs)(r:H<+:H'):kK_ H' lo hi t a n cs:=h.keep λl o e=>aS_ r (h.lt e).1
theorem kK_.cells(h:kK_ H lo hi t a n cs):cells? H a n=some cs:=by
 rcases h with⟨rfl,rfl,rfl⟩|⟨l,o,F,rfl,D,G,C,A,r⟩
 .rfl
 .simp only[cells?,C];rw[if_pos A,r]
theorem kK_.len(h:kK_ H lo hi t a n cs):cs.length=n:=Fp_ h.cells
theorem kK_.part(h:kK_ H lo hi t a n cs)(k m:Nat)(G:k+m<=n):kK_ H lo hi t (shf a k) m ((cs.drop k).take m):=by
 rcases h with⟨rfl,rfl,rfl⟩|⟨l,o,D,rfl,C,F,A,I,r⟩
 .exact .inl ⟨rfl,o_,t_⟩
 .refine .inr ⟨l,o+k,D,rfl,C,F,A,o_,?_⟩;rw[<-r,drop_take,take_take,drop_drop,Nat.min_eq_left o_]
theorem Dr.shf (h:Dr a b) (k m:Nat):Dr (shf a k) (shf b m):=by
 intro l o G r A;cases a with
 |none=>cases r
 | some p=>
  cases b with
  |none=>cases A
  |some q=>
   have⟨I,C⟩:=p;have⟨F,D⟩:=q;simp at r A;exact h l C D g_ g_
theorem kK_.wr (h:kK_ H lo hi t a n cs) (k:Nat) {i:Int} (A:i=k) (Y:k<n)
 (N:∀H',kK_ H' lo hi t a n (cs.set k v)->Ch lo hi H H'->(∀l,l<H.length->(∀o,a≠some (l,o))->H'[l]?=H[l]?)->K H'):chk (leI 0 i&&ltI i (nI n)) (pS a λO F=>Am.wr H O (F+tN i*1) v K):=by
 subst A;refine ab_ (by simp_all) ?_;rcases h with⟨_,rfl,_⟩|⟨l,o,V,rfl,D,G,C,W,U⟩
 .omega
 .simp[ae_];rw[rK_ C o_];have J:=(kC.1 C).1;refine N _ (.inr ⟨l,o,_,rfl,D,G,kH J,g_,?_⟩) ⟨t_,λI _ r=>?_⟩ (λI _ r=>?_)
  .rw[<-U,drop_set,if_neg o_,take_set,show o+k-o=k by omega]
  .grind
  .grind
end
structure PgM(H:Hp)(lo hi:Nat)(u l:Bool)(a1:Pl)(n1:Nat)(a2:Pl)(n2:Nat)(a3:Pl)(n3:Nat)(p:Pg):Prop where
 used:p.used=u
 leaf:p.leaf=l
 keys:kK_ H lo hi tS a1 n1 (p.keys.map GV.str)
 vals:kK_ H lo hi tS a2 n2 (p.vals.map GV.str)
 kids:kK_ H lo hi tI a3 n3 (p.kids.map (GV.int .i64))
 d12:Dr a1 a2
 d13:Dr a1 a3
 d23:Dr a2 a3
 small:n1<=1000/\n2<=1000/\n3<=1000
section
variable{H H':Hp}{lo hi:Nat}{u l:Bool}{a1:Pl}{n1:Nat}{a2:Pl}{n2:Nat}{a3:Pl}{n3:Nat}{p:Pg}
theorem PgM.at(h:PgM H lo hi u l a1 n1 a2 n2 a3 n3 p):ke_ H u l a1 n1 a2 n2 a3 n3 p:=by
 have⟨D,F,C,A,r,_,_,_,s⟩:=h;refine⟨D,F,⟨C.cells,?_,o_⟩,⟨A.cells,?_,o_⟩,⟨r.cells,?_,o_⟩⟩
 .have:=C.len;simpa using this.symm
 .have:=A.len;simpa using this.symm
 .have:=r.len;simpa using this.symm
theorem PgM.mono(h:PgM H lo hi u l a1 n1 a2 n2 a3 n3 p)(r:H<+:H'):PgM H' lo hi u l a1 n1 a2 n2 a3 n3 p:=
 ⟨h.used,h.leaf,h.keys.mono r,h.vals.mono r,h.kids.mono r,h.d12,h.d13,h.d23,h.small⟩
theorem Own.dr (h:Own H b t a n cs) (D:Own H b t' a' n' cs') (C:Dj a a'):Dr a a':=by
 intro l o G e A;rcases h with⟨q,_⟩|⟨m,q,_⟩
 .grind
 .rcases D with⟨r,_⟩|⟨F,r,_⟩
  .grind
  .rw[q]at e;rw[r]at A;cases e;cases A;exact C l q r
end
end Go.Am
namespace Go.Am
structure PC where
 u:Bool
 l:Bool
 a1:Pl
 n1:Nat
 a2:Pl
 n2:Nat
 a3:Pl
 n3:Nat
def PC.cells(c:PC):List GV:=[.bool c.u,.bool c.l,.sl c.a1 c.n1 1,.sl c.a2 c.n2 1,.sl c.a3 c.n3 1]
@[simp] theorem PC.cells_length (c:PC):c.cells.length=5:=rfl
def PC.at(H:Hp)(c:PC)(p:Pg):Prop:=ke_ H c.u c.l c.a1 c.n1 c.a2 c.n2 c.a3 c.n3 p
theorem PC.at.mono{H H':Hp}(r:H<+:H'){c:PC}(h:c.at H p):c.at H' p:=ke_.mono r h
def aZ_(cs:List PC):List GV:=cs.flatMap PC.cells
theorem cs_(cs:List PC):(aZ_ cs).length=cs.length*5:=by
 unfold aZ_;induction cs with
 |nil=>rfl
 |cons c cs h=>simp[h];omega
theorem pC_(cs h:List PC):aZ_ (cs++h)=aZ_ cs++aZ_ h:=by simp[aZ_]
theorem jL_ (hi:i<cs.length) (r:j<5):(aZ_ cs)[i*5+j]?=(cs[i].cells)[j]? :=by
 unfold aZ_;induction cs generalizing i with
 |nil=>simp at hi
 | cons c cs h=>
  simp;cases i with
  |zero=>rw[kM (by simp_all)];simp
  |succ i=>
   rw[List.getElem?_append_right s_];have e:(i+1)*5+j-c.cells.length=i*5+j:=by simp;omega
   grind
structure Tr(H:Hp)(a:Pl)(n:Nat)(cs:List PC)(T:List Pg):Prop where
 cells:cells? H a (n*5)=some (aZ_ cs)
 len:cs.length=n
 lenT:T.length=n
 all:∀i (h:i<cs.length) (h':i<T.length),(cs[i]).at H T[i]
theorem Tr.mono{H H':Hp}(r:H<+:H')(h:Tr H a n cs T):Tr H' a n cs T:=⟨me_ r h.cells,h.len,h.lenT,λi C A=>(h.all i C A).mono r⟩
theorem Tr.get (h:Tr H a n cs T) (hi:i<n):∃l o c p,a=some (l,o)/\cs[i]?=some c/\T[i]?=some p/\c.at H p/\
 gt H l (o+i*5)=some (.bool c.u)/\gt H l (o+i*5+1)=some (.bool c.l)/\gt H l (o+i*5+2)=some (.sl c.a1 c.n1 1)/\gt H l (o+i*5+3)=some (.sl c.a2 c.n2 1)/\gt H l (o+i*5+4)=some (.sl c.a3 c.n3 1):=by
 have F:=h.len;have D:=h.lenT;have A:=h.cells;cases a with
 |none=>simp[cells?]at A;omega
 | some q=>
  have⟨l,o⟩:=q;have r:∀j,j<5->gt H l (o+i*5+j)=((cs[i]'o_).cells)[j]? :=by
   intro j C;have:=jC_ A (j:=i*5+j) o_;rw[<-Nat.add_assoc]at this;rw[this,jL_ o_ C]
  exact⟨l,o,cs[i]'o_,T[i]'o_,rfl,t_,t_,h.all i o_ o_,r 0 o_,r 1 o_,r 2 o_,r 3 o_,r 4 o_⟩
theorem cP_{c:PC}{K:Bool->Bool->Pl->Nat->Pl->Nat->Pl->Nat->Prop}(Y:gt H l j=some (.bool c.u))(C:gt H l (j+1)=some (.bool c.l))(r:gt H l (j+2)=some (.sl c.a1 c.n1 1))(h3:gt H l (j+3)=some (.sl c.a2 c.n2 1))(J:gt H l (j+4)=some (.sl c.a3 c.n3 1)):
 (rd H l j λv0=>dB v0 λA=>rd H l (j+1) λF=>dB F λN=>rd H l (j+1+1) λI=>dL 1 I λZ n2=>rd H l (j+1+1+1) λW=>dL 1 W λD O=>rd H l (j+1+1+1+1) λV=>dL 1 V λU G=>K A N Z n2 D O U G)=K c.u c.l c.a1 c.n1 c.a2 c.n2 c.a3 c.n3:=by
 rw[ad_ Y,am_,ad_ C,am_,ad_ r,ah_,ad_ h3,ah_,ad_ J,ah_]
end Go.Am
namespace Go.Am
open List
open Go.RowKit Go.ChangeShapes Go.WideShapes Go.Proofs
theorem Kp_(F:P.underlying t=some (.struct fs))(h:Value.okWide P W r b t v):∃A:Array Value,v= .agg A/\∀x∈A.toList,Zc W x:=by
 unfold Value.okWide at h;rw[F]at h;obtain⟨A,rfl,_,J,_,_,I⟩:=h;refine⟨A,rfl,λx D=>?_⟩;obtain⟨i,N,rfl⟩:=kK D;have⟨u,_,G⟩:=I i A[i] t_;exact vK_ G
section
variable{Hh:Type}{enc:TypeId × Value->Hh}{W:World}{held:Bool}
theorem Ht_ {fuel:Nat} {cs:List Value} {x:DataW Hh × List MemPlace} (h:DataW.trod enc Tryz.prog W 0 (λ_=>true) held fuel 100 cs=some x) (hz:∀v∈cs,Zc W v) (hw:(DataW.weights Tryz.prog 100 x.1).all (· <=reachBytes)=true)
 {φ:List LI} {H:Hp} (hr:cQ_ φ H W) (hn:iH_ H):
 ∃φ' H' u l a1 n1 a2 n2 a3 n3 p,φ<+:φ'/\H<+:H'/\cQ_ φ' H' W/\iH_ H'/\Is2 φ' [.bool u,.bool l,.sl a1 n1 1,.sl a2 n2 1,.sl a3 n3 1] cs/\ke_ H' u l a1 n1 a2 n2 a3 n3 p:=by
 obtain⟨xs,n,rfl,rfl,hlen,hxs,hf⟩:=DataW.trod_struct Tryz.underlying100 h;have h5:Tryz.prog.cellsOf 100=5:=by kernel_rfl
 have cB:Tryz.prog.cellsOf 4=1:=by kernel_rfl
 have c22:Tryz.prog.cellsOf 46=1:=by kernel_rfl
 have c23:Tryz.prog.cellsOf 47=1:=by kernel_rfl
 rw[h5]at hlen
 match cs,hlen with
 | [v0,v1,v2,v3,v4],_=>
  have f0:DataW.trod enc Tryz.prog W 0 (λ_=>true) held n 4 (([v0,v1,v2,v3,v4].drop 0).take (Tryz.prog.cellsOf 4))=xs[0]? :=hf 0 _ rfl;have f1:DataW.trod enc Tryz.prog W 0 (λ_=>true) held n 4 (([v0,v1,v2,v3,v4].drop 1).take (Tryz.prog.cellsOf 4))=xs[1]? :=hf 1 _ rfl;have f2:DataW.trod enc Tryz.prog W 0 (λ_=>true) held n 46 (([v0,v1,v2,v3,v4].drop 2).take (Tryz.prog.cellsOf 46))=xs[2]? :=hf 2 _ rfl;have f3:DataW.trod enc Tryz.prog W 0 (λ_=>true) held n 46 (([v0,v1,v2,v3,v4].drop 3).take (Tryz.prog.cellsOf 46))=xs[3]? :=hf 3 _ rfl;have f4:DataW.trod enc Tryz.prog W 0 (λ_=>true) held n 47 (([v0,v1,v2,v3,v4].drop 4).take (Tryz.prog.cellsOf 47))=xs[4]? :=hf 4 _ rfl;simp only[cB,c22,c23,drop_zero,drop_succ_cons,take_succ_cons,take_zero]at f0 f1 f2 f3 f4
  match xs,hxs with
  | [x0,x1,x2,x3,x4],_=>
   simp only[getElem?_cons_zero,getElem?_cons_succ]at f0 f1 f2 f3 f4;simp only[map_cons,map_nil,DataW.weights,Tryz.underlying100]at hw;obtain⟨u,e0,_⟩:=DataW.trod_bool Tryz.underlying4 f0;obtain⟨l,e1,_⟩:=DataW.trod_bool Tryz.underlying4 f1;simp only[List.cons.injEq,and_true]at e0 e1;subst e0;subst e1;obtain⟨φ1,H1,a1,n1,ks,w2,e2,p1,q1,r1,o1,i1,s1⟩:=pY_ Tryz.underlying46 Tryz.underlying9 (by kernel_rfl) (by kernel_rfl) f2 (λv hv=>hz v (by simp at hv;simp[hv])) (lf_ hw (j:=2) rfl rfl) hr hn;obtain⟨φ2,H2,a2,n2,vs,w3,e3,p2,q2,r2,o2,i2,s2⟩:=pY_ Tryz.underlying46 Tryz.underlying9 (by kernel_rfl) (by kernel_rfl) f3 (λv hv=>hz v (by simp at hv;simp[hv])) (lf_ hw (j:=3) rfl rfl) r1 o1;obtain⟨φ3,H3,a3,n3,is,w4,e4,p3,q3,r3,o3,i3,s3⟩:=yF_ Tryz.underlying47 Tryz.underlying3 (by kernel_rfl) (by kernel_rfl) f4 (λv hv=>hz v (by simp at hv;simp[hv])) (lf_ hw (j:=4) rfl rfl) r2 o2;simp only[List.cons.injEq,and_true]at e2 e3 e4;subst e2;subst e3;subst e4;exact⟨φ3,H3,u,l,a1,n1,a2,n2,a3,n3,⟨u,l,ks,vs,is⟩,p1.trans (p2.trans p3),q1.trans (q2.trans q3),r3,o3,
    .cons rfl (.cons rfl (.cons (GV.is.mono (p2.trans p3) i1) (.cons (GV.is.mono p3 i2) (.cons i3 .nil)))),⟨rfl,rfl,s1.mono (q2.trans q3),s2.mono q3,s3⟩⟩
theorem t8_:∀{D:List (DataW Hh)},(DataW.weightsAll P e D).all (· <=reachBytes)=true->∀{i:Nat}{d:DataW Hh},D[i]?=some d->(DataW.weights P e d).all (· <=reachBytes)=true
 |[],_,i,d,h=>by grind
 |d0::r,A,0,d,h=>by
  simp[DataW.weightsAll]at A;grind
 |d0::r,A,i+1,d,h=>by
  simp only[DataW.weightsAll,all_append,kR]at A;exact t8_ A.2 h
theorem Is2.get(h:Is2 φ cs vs){j:Nat}(r:cs[j]?=some v):∃x,vs[j]?=some x/\v.is φ x:=ct_.get h r
theorem Dn_ {fuel:Nat} {cs:List Value} {x:DataW Hh × List MemPlace} (h:DataW.trod enc Tryz.prog W 0 (λ_=>true) held fuel 22 cs=some x) (hz:∀v∈cs,Zc W v) (hw:(DataW.weights Tryz.prog 22 x.1).all (· <=reachBytes)=true)
 {φ:List LI} {H:Hp} (hr:cQ_ φ H W) (hn:iH_ H):
 ∃φ' H' a n ps T v,cs=[v]/\φ<+:φ'/\H<+:H'/\cQ_ φ' H' W/\iH_ H'/\GV.is φ' (.sl a n 5) v/\Tr H' a n ps T/\n*80<=140737488351232:=by
 have h5:Tryz.prog.cellsOf 100=5:=by kernel_rfl
 rcases DataW.trod_slice Tryz.underlying22 h with⟨rfl,rfl⟩|⟨a,len,cap,elems,rest,n,rfl,rfl,rfl,_,hl,hcap,hel,hi,hrest,_⟩
 .exact⟨φ,H,none,0,[],[],_,rfl,k8 _,k8 _,hr,hn,⟨rfl,rfl⟩,⟨rfl,rfl,rfl,λi h1=>(by simp at h1)⟩,o_⟩
 rw[h5]at hi hrest;obtain⟨hrl,hrj⟩:=hrest rfl;simp only[DataW.weights,Tryz.underlying22]at hw;rw[all_cons,all_append,kR,kR]at hw;obtain⟨hw0,hw1,_⟩:=hw;have hpos:0<W.heap.size:=hz (.slice (some a) len cap) (mem_singleton.2 rfl) _ _ _ rfl;have hsp:0<cap->a.spot=none/\a.block<W.heap.size:=by
  intro h0;have hb:∃cs0,W.cells? 0 (a.add 0) 5=some cs0:=by
   rcases Nat.eq_zero_or_pos len with e|e
   .have:=hrj 0 o_;rw[e]at this;simp only[kN,Nat.zero_mul]at this;rw[kG o_]at this;cases hc:W.cells? 0 (a.add 0) 5 with
    |none=>rw[hc]at this;cases this
    |some c=>exact⟨c,rfl⟩
   .have:=hi 0 e;simp only[Nat.zero_mul]at this;rw[kG o_]at this;cases hc:W.cells? 0 (a.add 0) 5 with
    |none=>rw[hc]at this;cases this
    |some c=>exact⟨c,rfl⟩
  obtain⟨c0,hc0⟩:=hb;obtain⟨_,hlen,hget⟩:=World.cells?_some hc0;have:=hget 0 o_;rw[kG o_]at this;have:=zY_ this;simpa[Addr.add] using this
 have key:∀k,k<=len->∃(φ':List LI)(H':Hp)(ps:List PC)(T:List Pg),φ<+:φ'/\H<+:H'/\cQ_ φ' H' W/\iH_ H'/\ps.length=k/\T.length=k/\(∀i (h:i<ps.length) (h':i<T.length),(ps[i]).at H' T[i])/\
  ∀j v,(aZ_ ps)[j]?=some v->∃x,W.cell? (a.add j)=some x/\v.is φ' x:=by
  intro k;induction k with
  |zero=>intro _;exact⟨φ,H,[],[],k8 _,k8 _,hr,hn,rfl,rfl,λi h1=>(by simp at h1),λj v hj=>(by simp[aZ_]at hj)⟩
  | succ k ih=>
   intro hk;obtain⟨φ1,H1,ps,T,e1,g1,r1,n1,l1,l2,at1,c1⟩:=ih o_;have hik:=hi k o_;have hel':k<elems.length:=by omega
   rw[kG hel']at hik;cases hc:W.cells? 0 (a.add (k*5)) 5 with
   |none=>rw[hc]at hik;cases hik
   | some ck=>
    rw[hc]at hik;obtain⟨_,hlen,hget⟩:=World.cells?_some hc;obtain⟨φ2,H2,u,l,a1,n1',a2,n2,a3,n3,p,e2,g2,r2,n2',is2,at2⟩:=Ht_ (x:=elems[k]) hik (λv hv=>by intro _ _ _ _;exact hpos) (t8_ hw1 (i:=k) (by rw[getElem?_map,kG hel'];rfl)) r1 n1;obtain⟨hs,hb⟩:=hsp o_;refine⟨φ2,H2,ps++[⟨u,l,a1,n1',a2,n2,a3,n3⟩],T++[p],e1.trans e2,g1.trans g2,r2,n2',by simp[l1],by simp[l2],?_,?_⟩
    .intro i h1 h2;rw[getElem_append,getElem_append];by_cases e:i<k
     .rw[dif_pos o_,dif_pos o_];exact (at1 i o_ o_).mono g2
     .rw[dif_neg o_,dif_neg o_];simpa[PC.at] using at2
    ·intro j v hj;rw[pC_]at hj;rcases Nat.lt_or_ge j (k*5) with q|q
     .rw[kM (by rw[cs_];omega)]at hj;obtain⟨x,x1,x2⟩:=c1 j v hj;exact⟨x,x1,GV.is.mono e2 x2⟩
     .rw[getElem?_append_right (by rw[cs_];omega),cs_,l1]at hj;have hj5:j-k*5<5:=by have:=(kC.1 hj).1;simpa[aZ_] using this
      obtain⟨x,hx,hvx⟩:=Is2.get is2 (j:=j-k*5) (v:=v) (by simpa[aZ_,PC.cells] using hj);refine⟨x,?_,hvx⟩;have:=hget (j-k*5) hj5;rw[hx]at this;rw[<-this,oc_ hs,oc_ hs];rw[oc_ rfl];congr 2;show a.off+j=a.off+k*5+(j-k*5);omega
 obtain⟨φ1,H1,ps,T,e1,g1,r1,n1,l1,l2,at1,c1⟩:=key len (kO _);obtain⟨φ2,H2,p,e2,g2,r2,n2,i2,s2⟩:=xj_ (z:=5) r1 n1 hl hpos hsp (aZ_ ps) (by rw[cs_,l1]) c1;refine⟨φ2,H2,p,len,ps,T,_,rfl,e1.trans e2,g1.trans g2,r2,n2,i2,⟨s2,l1,l2,λi h1 h2=>(at1 i h1 h2).mono g2⟩,?_⟩;have hb:Tryz.prog.bytesOf 100=80:=by kernel_rfl
 simp only[decide_eq_true_eq,k9,hb,hel]at hw0;unfold reachBytes at hw0;omega
theorem Jv_ {fuel:Nat} {cs:List Value} {x:DataW Hh × List MemPlace} (h:DataW.trod enc Tryz.prog W 0 (λ_=>true) held fuel 24 cs=some x) (hz:∀v∈cs,Zc W v) (hw:(DataW.weights Tryz.prog 24 x.1).all (· <=reachBytes)=true)
 {φ:List LI} {H:Hp} (hr:cQ_ φ H W) (hn:iH_ H):
 ∃φ' H' a n ps T,φ<+:φ'/\H<+:H'/\cQ_ φ' H' W/\iH_ H'/\Is2 φ' [.sl a n 5] cs/\Tr H' a n ps T/\n*80<=140737488351232:=by
 obtain⟨xs,n,rfl,rfl,hlen,hxs,hf⟩:=DataW.trod_struct Tryz.underlying24 h;have h1:Tryz.prog.cellsOf 24=1:=by kernel_rfl
 have c1:Tryz.prog.cellsOf 22=1:=by kernel_rfl
 rw[h1]at hlen
 match cs,hlen with
 | [v0],_=>
  have f0:DataW.trod enc Tryz.prog W 0 (λ_=>true) held n 22 (([v0].drop 0).take (Tryz.prog.cellsOf 22))=xs[0]? :=hf 0 _ rfl;simp only[c1,drop_zero,take_succ_cons,take_zero]at f0
  match xs,hxs with
  |[x0],_=>
   simp only[getElem?_cons_zero]at f0;simp only[map_cons,map_nil,DataW.weights,Tryz.underlying24]at hw;obtain⟨φ1,H1,a,m,ps,T,v,e,p1,q1,r1,o1,i1,s1,b1⟩:=Dn_ f0 (λv hv=>hz v hv) (lf_ hw (j:=0) rfl rfl) hr hn;simp only[List.cons.injEq,and_true]at e;subst e;exact⟨φ1,H1,a,m,ps,T,p1,q1,r1,o1,.cons i1 .nil,s1,b1⟩
end
end Go.Am
namespace Go.Am
open List
structure dC_{α β:Type}(ek:α->RV)(ev:β->RV)(H:Hp)(l:Nat)(ps:List (α × β)):Prop where
 ex:∃es c,H[l]?=some (.map es c)/\es.map (λe=>(e.2.1,e.2.2))=ps.map (λp=>(ek p.1,ev p.2))/\(∀e∈es,e.1<c)/\(es.map (·.1)).Nodup
 nodup:(ps.map (·.1)).Nodup
structure tK_{α:Type}(ag:Bool)(lv:List LK)(ek:α->RV):Prop where
 fit:∀a,nW_ ag lv (ek a)=true
 inj:∀a b,ek a=ek b->a=b
theorem Dw_ (h:nW_ ag lv k=true) (r:nW_ ag lv k'=true):∃e,lk_ k.cells k'.cells=some e/\(e=true↔k=k'):=by
 cases ag with
 | false=>
  cases k with
  |a _=>cases h
  | s v=>cases k' with
   |a _=>cases r
   |s G=>
    have⟨e,C,A⟩:=jB_ h r
    exact⟨e,C,A.trans ⟨λq=>by grind,λq=>by cases q;rfl⟩⟩
 | true=>
  cases k with
  |s _=>cases h
  | a F=>cases k' with
   |s _=>cases r
   |a D=>
    have⟨e,C,A⟩:=jB_ h r
    exact⟨e,C,A.trans ⟨λq=>by grind,λq=>by cases q;rfl⟩⟩
section
variable{α β:Type}[DecidableEq α]{ek:α->RV}{ev:β->RV}{ag:Bool}{lv:List LK}{H:Hp}{l:Nat}{ps:List (α × β)}
def look(ps:List (α × β))(k:α):Option β:=(ps.find? λp=>decide (p.1=k)).map (·.2)
def fz_(ps:List (α × β))(k:α)(v:β):List (α × β):=match look ps k with
 |some _=>ps.map λp=>if p.1=k then (k,v) else p
 |none=>ps++[(k,v)]
theorem vP_ (ok:tK_ ag lv ek) (k:α):∀{es:List Ent}{ps:List (α × β)} (i:Nat),es.map (λe=>(e.2.1,e.2.2))=ps.map (λp=>(ek p.1,ev p.2))->
 (look ps k=none/\pd_ ag lv (ek k) es i=some none/\∀p∈ps,p.1≠k)\/∃j v,look ps k=some v/\pd_ ag lv (ek k) es i=some (some (i+j))/\ps[j]?=some (k,v)
 |[],[],i,_=> .inl ⟨rfl,rfl,t_⟩
 |[],_::_,_,h=>by grind
 |_::_,[],_,h=>by grind
 | e::es,p::ps,i,h=>by
  simp[map_cons]at h;have⟨⟨I,U⟩,h3⟩:=h;have⟨q,G,D⟩:=Dw_ (ok.fit k) (ok.fit p.1);by_cases r:p.1=k
  .right;refine⟨0,p.2,by simp[look,r],?_,by simp[<-r]⟩;have:=D.2 g_;subst this;simp[pd_,I,ok.fit,G]
  ·have A:q=false:=by
    cases q with
    |false=>rfl
    |true=>exact absurd (ok.inj _ _ (D.1 rfl)).symm r
   subst A;have O:look (p::ps) k=look ps k:=by simp[look,r]
   have J:pd_ ag lv (ek k) (e::es) i=pd_ ag lv (ek k) es (i+1):=by simp[pd_,I,ok.fit,G]
   rcases vP_ ok k (i+1) h3 with⟨N,C,F⟩|⟨j,v,N,C,F⟩
   .grind
   .exact .inr ⟨j+1,v,g_,by rw[J,C];congr 2;omega,F⟩
end
section
variable{α β:Type}{ek:α->RV}{ev:β->RV}{ag:Bool}{lv:List LK}{H:Hp}{l:Nat}{ps:List (α × β)}
theorem Gj_{es:List Ent}(h:es.map (λe=>(e.2.1,e.2.2))=ps.map λp=>(ek p.1,ev p.2)){j:Nat}(A:ps[j]?=some (k,v)):∃e,es[j]?=some e/\e.2.1=ek k/\e.2.2=ev v:=by
 have:=congrArg (λl:List (RV × RV)=>l[j]?) h;simp only[getElem?_map,A]at this;cases r:es[j]? with
 |none=>rw[r]at this;simp at this
 |some e=>rw[r]at this;simp at this;exact⟨e,rfl,this.1,this.2⟩
end
section
variable{α β:Type}[DecidableEq α]{ek:α->RV}{ev:β->RV}{ag:Bool}{lv:List LK}{H:Hp}{l:Nat}{ps:List (α × β)}
theorem fv_(ok:tK_ ag lv ek)(h:dC_ ek ev H l ps)(k:α)(I:∀v,look ps k=some v->K (ev v) true)(N:look ps k=none->K z false):sy_ H (some l) ag lv (ek k) z K:=by
 have⟨F,c,U,r,_,_⟩:=h.ex;unfold sy_;rcases vP_ ok k 0 r with⟨D,A,_⟩|⟨j,v,D,A,C⟩
 .grind
 .have⟨e,G,J,O⟩:=Gj_ r C;grind
end
section
variable{α β:Type}{ek:α->RV}{ev:β->RV}{ag:Bool}{lv:List LK}{H:Hp}{l:Nat}{ps:List (α × β)}
theorem l3_(h:dC_ ek ev H l ps)(C:K ps.length):oS_ H (some l) K:=by
 have⟨A,c,D,r,_,_⟩:=h.ex;unfold oS_;have:=congrArg length r;grind
end
section
variable{α β:Type}[DecidableEq α]{ek:α->RV}{ev:β->RV}{ag:Bool}{lv:List LK}{H:Hp}{l:Nat}{ps:List (α × β)}
theorem cW_ (h:look ps k=some v):(k,v)∈ps:=by
 unfold look at h;cases r:ps.find? λp=>decide (p.1=k) with
 |none=>rw[r]at h;cases h
 |some p=>
  grind
theorem oy_(h:look ps k=none):∀p∈ps,p.1≠k:=by
 unfold look at h;rw[Option.map_eq_none_iff,find?_eq_none]at h;grind
theorem ow_ (k:α) (v:β):(fz_ ps k v).map (·.1)=match look ps k with|some _=>ps.map (·.1)|none=>ps.map (·.1)++[k]:=by
 unfold fz_;cases look ps k with
 |none=>simp
 |some _=>
  simp only[map_map];apply map_congr_left;grind
theorem iz_ (ok:tK_ ag lv N) (h:dC_ N ev H l ps) (k:α) (v:β) {K:Hp->Prop} (hK:∀H',H'.length=H.length->(∀G,G≠l->H'[G]?=H[G]?)->dC_ N ev H' l (fz_ ps k v)->K H'):x5_ H (some l) ag lv (N k) (ev v) K:=by
 have⟨es,c,hm,O,hb,hn⟩:=h.ex;have F:=(kC.1 hm).1;unfold x5_;simp[hm];rcases vP_ ok k 0 O with⟨I,V,D⟩|⟨j,v0,I,V,D⟩
 .rw[V];refine hK _ t_ (λG U=>by rw[kF (Ne.symm U)]) ⟨⟨es++[(c,N k,ev v)],c+1,by rw[kH F],?_,?_,?_⟩,?_⟩
  .unfold fz_;rw[I];simp[O]
  .grind
  .rw[kL,kT];refine⟨hn,t_,λa Z b r q=>?_⟩;simp at r;have⟨e,Y,A⟩:=lA.1 Z;have:=hb e Y;omega
  .rw[ow_,I,kT];refine⟨h.nodup,t_,λa Z b r q=>?_⟩;simp at r;subst q;subst r;have⟨p,hp,A⟩:=lA.1 Z;exact D p hp A
 ·rw[V];have⟨e,J,A,e3⟩:=Gj_ O D;simp[J];refine hK _ t_ (λG U=>by rw[kF (Ne.symm U)]) ⟨⟨es.set j (e.1,e.2.1,ev v),c,by rw[kH F],?_,?_,?_⟩,?_⟩
  ·have W:fz_ ps k v=ps.set j (k,v):=by
    unfold fz_;rw[I];apply ext_getElem?;intro n;rw[getElem?_map,getElem?_set];by_cases C:j=n
    .subst C;rw[D];simp[(kC.1 D).1]
    ·rw[if_neg C];cases hx:ps[n]? with
     |none=>rfl
     | some p=>
      have hpk:p.1≠k:=λq=>by
       have hj1:(ps.map (·.1))[j]?=some k:=by rw[getElem?_map,D];rfl
       have hn1:(ps.map (·.1))[n]?=some k:=by rw[getElem?_map,hx,Option.map_some,q]
       have⟨l1,J⟩:=kC.1 hj1;obtain⟨l2,A⟩:=kC.1 hn1;rcases Nat.lt_or_gt_of_ne C with g|g
       .exact kS.1 h.nodup j n l1 l2 g (by rw[J,A])
       .exact kS.1 h.nodup n j l2 l1 g (by rw[J,A])
      simp[hpk]
   rw[W,List.map_set,List.map_set,O,A]
  .intro x hx;rcases mem_or_eq_of_mem_set hx with q|q
   .exact hb x q
   .rw[q];exact hb e (mem_of_getElem? J)
  .rw[List.map_set];grind
  .rw[ow_,I];exact h.nodup
end
structure fh_ {α β:Type} (ek:α->RV) (ev:β->RV) (H:Hp) (it l:Nat) (ps:List (α × β)) (js:List Nat):Prop where
 ex:∃es c,H[l]?=some (.map es c)/\es.map (λe=>(e.2.1,e.2.2))=ps.map (λp=>(ek p.1,ev p.2))/\(∀e∈es,e.1<c)/\(es.map (·.1)).Nodup/\
  H[it]?=some (.iter (some l) c (js.map λj=>((es[j]?).map (·.1)).getD 0) c)
 nod:js.Nodup
 lt:∀j∈js,j<ps.length
section
variable{α β:Type}{ek:α->RV}{ev:β->RV}{H H':Hp}{it l:Nat}{ps:List (α × β)}{js:List Nat}
theorem dC_.keep(h:dC_ ek ev H l ps)(e:H'[l]?=H[l]?):dC_ ek ev H' l ps:=by
 have⟨A,c,C,r⟩:=h.ex;exact⟨⟨A,c,g_,r⟩,h.nodup⟩
theorem dC_.lt(h:dC_ ek ev H l ps):l<H.length:=by
 have⟨r,c,A,_⟩:=h.ex;grind
theorem fh_.keep(h:fh_ ek ev H it l ps js)(I:H'[l]?=H[l]?)(D:H'[it]?=H[it]?):fh_ ek ev H' it l ps js:=by
 have⟨G,c,J,A,C,F,r⟩:=h.ex;exact⟨⟨G,c,g_,A,C,F,by rw[D];exact r⟩,h.nod,h.lt⟩
theorem fh_.lts(h:fh_ ek ev H it l ps js):l<H.length/\it<H.length:=by
 have⟨r,c,A,_,_,_,C⟩:=h.ex;grind
theorem fh_.map(h:fh_ ek ev H it l ps js)(C:(ps.map (·.1)).Nodup):dC_ ek ev H l ps:=by
 have⟨G,c,F,r,A,D,_⟩:=h.ex;exact⟨⟨G,c,F,r,A,D⟩,C⟩
theorem vM_(h:dC_ ek ev H l ps)(C:∀o,fh_ ek ev (H++[o]) H.length l ps []->K (H++[o])):rng H (some l) K:=by
 have⟨I,c,G,r,A,D⟩:=h.ex;unfold rng;simp[G];exact C _ ⟨⟨I,c,g_,r,A,D,by rw[getElem?_concat_length];rfl⟩,nodup_nil,λj F=>by cases F⟩
theorem BJ_{es:List Ent}(h:es.map (λe=>(e.2.1,e.2.2))=ps.map λp=>(ek p.1,ev p.2)):es.length=ps.length:=by
 have:=congrArg length h;simpa
theorem DH_{es:List Ent}(h:es.map (λe=>(e.2.1,e.2.2))=ps.map λp=>(ek p.1,ev p.2))(A:j<ps.length)(r:j<es.length):es[j].2.1=ek ps[j].1/\es[j].2.2=ev ps[j].2:=by
 have:=congrArg (λl:List (RV × RV)=>l[j]?) h;grind
theorem GN_{es:List Ent}(r:(es.map (·.1)).Nodup)(hi:i<es.length)(A:j<es.length)(h:es[i].1=es[j].1):i=j:=by
 rcases Nat.lt_trichotomy i j with g|g|g
 .exact absurd g_ (kS.1 r i j g_ g_ g)
 .exact g
 .exact absurd g_ (kS.1 r j i g_ g_ g)
theorem wJ_ (h:fh_ ek ev H it l ps js) (U:it≠l)
 (h1:∀j (D:j<ps.length),j∉js->∀H',H'.length=H.length->(∀O,O≠it->H'[O]?=H[O]?)->fh_ ek ev H' it l ps (js++[j])->K1 (ek ps[j].1) (ev ps[j].2) H')
 (h2:js.Perm (List.range ps.length)->K2 H):nxt H it 0 K1 K2:=by
 have⟨C,c,hm,Z,hb,hn,G⟩:=h.ex;have hl:=BJ_ Z;have W:=(kC.1 G).1;have A:∀j (D:j<C.length),((C[j]?).map (·.1)).getD 0=C[j].1:=λj D=>by simp[kG D]
 refine⟨rfl,?_⟩;simp only[G,hm];refine⟨?_,λe r V=>?_,λhall=>?_⟩
 .cases C with
  |nil=>exact .inr (.inl rfl)
  |cons e C=>exact .inr (.inr ⟨e,t_,hb e t_⟩)
 ·obtain⟨j,D,rfl⟩:=kK r;have J:=λq=>V (lA.2 ⟨j,q,A j D⟩);have⟨e1,e2⟩:=DH_ Z o_ D;rw[e1,e2];refine h1 j o_ J _ t_ (λO Y=>by rw[kF (Ne.symm Y)]) ⟨⟨C,c,by rw[kF U];exact hm,Z,hb,hn,?_⟩,?_,?_⟩
  .rw[kH W,kL,map_singleton,A j D]
  .rw[kT];exact⟨h.nod,t_,λa ha b I q=>by simp at I;subst q;subst I;exact J ha⟩
  ·intro i N;rcases kD.1 N with q|q
   .exact h.lt i q
   .have:i=j:=by simpa using q
    omega
 ·refine h2 ((perm_ext_iff_of_nodup h.nod nodup_range).2 λj=>⟨λq=>mem_range.2 (h.lt j q),λq=>?_⟩);have D:j<C.length:=by have:=mem_range.1 q;omega
  have r:C[j].1∈js.map λj=>((C[j]?).map (·.1)).getD 0:=by
   grind
  have⟨i,N,e⟩:=lA.1 r;have F:i<C.length:=by have:=h.lt i N;omega
  rw[A i F]at e;rw[<-GN_ hn F D e];exact N
theorem rW_ {j:Nat} (h:fh_ ek ev H it l ps (js++[j])) (G:j<ps.length) {K:RV->RV->Prop} (O:K (ek ps[j].1) (ev ps[j].2)):CH_ H it 0 K:=by
 obtain⟨C,c,I,r,U,F,D⟩:=h.ex;have V:=BJ_ r;have A:j<C.length:=by omega
 refine⟨rfl,?_⟩;simp only[D,I,kL,map_singleton,getLast?_concat,kG A,Option.map_some,Option.getD_some];have Y:C.find? (λe=>e.1==C[j].1)=some C[j]:=by
  have:∀{l:List Ent},(l.map (·.1)).Nodup->∀e∈l,l.find? (λx=>x.1==e.1)=some e:=by
   intro l;induction l with
   |nil=>intro _ e r;cases r
   |cons x l N=>
    intro F e r;rw[map_cons,nodup_cons]at F;rw[find?_cons];rcases kU.1 r with rfl|r
    .simp
    .grind
  grind
 obtain⟨J,W⟩:=DH_ r G A;grind
end
def tQ_(n:Int):Bool:=(leI 97 n&&leI n 122)||(leI 48 n&&leI n 57)
def jn_(s:Y_):Nat->Bool
 |0=>true
 |i+1=>jn_ s i&&tQ_ (byt s i)
def aX_(s:Y_)(m:Int):Bool:=jn_ s s.size&&(leI 1 (sz s)&&leI (sz s) m)
theorem kV_ (h:tQ_ (byt s i)=false):∀n,i<n->jn_ s n=false
 |0,r=>by omega
 | n+1,r=>by
  rcases Nat.lt_or_ge i n with q|q
  .simp[jn_,kV_ h n q]
  .obtain rfl:i=n:=by omega
   simp[jn_,h]
section
variable{H:Hp}{Q:Post}{s:Y_}
theorem lr_:s=mkS []↔s.size=0:=by
 constructor
 .simp_all
 .intro h;have:bs s=[]:=length_eq_zero_iff.1 (by simp_all);exact i9_ (by simp_all)
theorem pm_ {m:Int} (hs:s.size<=140737488351232) (hQ:Q (gB (aX_ s m)) H):dj_ [gS s,gI m] H Q:=by
 refine⟨s.size+2,?_⟩;rw[Bi_];have loop:∀(f i:Nat),s.size-i<f->i<=s.size->jn_ s i=true->dj_.l2 f s m (sz s) (i:Int) H Q:=by
  intro f;induction f with
  |zero=>intro i h;omega
  | succ f ih=>
   intro i hf hi hw;rw[dj_.l2_eq];rcases Nat.lt_or_ge i s.size with hi' |hi'
   ·rw[az_ (by simp[nm_];omega)];refine ab_ (by simp[nm_];omega) ?_;have etN:tN (i:Int)=i:=rfl;rw[etN,an_ o_];have nx:tQ_ (byt s i)=true->dj_.l2 f s m (sz s) ((i+1:Nat):Int) H Q:=λh=>ih (i+1) o_ o_ (by simp[jn_,hw,h]);have no:tQ_ (byt s i)=false->Q (gB false) H:=λh=>by
     have:aX_ s m=false:=by unfold aX_;rw[kV_ h _ hi'];rfl
     rw[<-this];exact hQ
    generalize byt s i=b at*;refine aa_ (λe1=>aa_ (λe2=>no ?_) λe2=>aa_ (λe3=>no ?_) λe3=>nx ?_) (λe1=>aa_ (λe2=>aa_ (λe3=>no ?_) λe3=>aa_ (λe4=>no ?_) λe4=>nx ?_) λe2=>nx ?_)<;>
     simp[tQ_] at* <;>omega
   ·obtain rfl:i=s.size:=by omega
    rw[aA_ (by simp[nm_])];unfold aX_ at hQ;rw[hw,Bool.true_and]at hQ;refine aa_ (λe=>?_) λe=>?_
    .have h0:s.size≠0:=λz=>by rw[lr_.2 z]at e;simp at e
     rw[show leI 1 (sz s)=true by simp[nm_];omega,Bool.true_and]at hQ;exact hQ
    .have h0:s.size=0:=lr_.1 (by simpa using e);rw[show leI 1 (sz s)=false by simp[nm_];omega,Bool.false_and]at hQ;exact hQ
 exact loop _ 0 o_ (kP _) rfl
theorem my_ {m:Int} (hs:s.size<=140737488351232) (hQ:Q (gB (aX_ s m)) H):cm_ [gS s,gI m] H Q:=by
 refine⟨s.size+2,?_⟩;rw[xq_];have loop:∀(f i:Nat),s.size-i<f->i<=s.size->jn_ s i=true->cm_.l2 f s m (i:Int) H Q:=by
  intro f;induction f with
  |zero=>intro i h;omega
  | succ f ih=>
   intro i hf hi hw;rw[cm_.l2_eq];rcases Nat.lt_or_ge i s.size with hi' |hi'
   ·rw[az_ (by simp[nm_];omega)];have hck:(leI 0 (i:Int)&&ltI (i:Int) (sz s))=true:=by simp[nm_];omega
    rw[hck];simp only[af_];have etN:tN (i:Int)=i:=rfl;rw[etN,an_ o_];have nx:tQ_ (byt s i)=true->cm_.l2 f s m ((i+1:Nat):Int) H Q:=λh=>ih (i+1) o_ o_ (by simp[jn_,hw,h]);have no:tQ_ (byt s i)=false->Q (gB false) H:=λh=>by
     have:aX_ s m=false:=by unfold aX_;rw[kV_ h _ hi'];rfl
     rw[<-this];exact hQ
    generalize byt s i=b at*;refine aa_ (λe1=>aa_ (λe2=>nx ?_) λe2=>aa_ (λe3=>aa_ (λe4=>no ?_) λe4=>nx ?_) λe3=>no ?_) (λe1=>aa_ (λe3=>aa_ (λe4=>no ?_) λe4=>nx ?_) λe3=>no ?_)<;>
     simp[tQ_] at* <;>omega
   .obtain rfl:i=s.size:=by omega
    rw[aA_ (by simp[nm_])];unfold aX_ at hQ;rw[hw,Bool.true_and]at hQ;refine aa_ (λe=>?_) λe=>?_
    .rw[e,Bool.true_and]at hQ;exact hQ
    .rw[e,Bool.false_and]at hQ;exact hQ
 exact loop _ 0 o_ (kP _) rfl
end
theorem eh_(h:(!b)=true):b=false:=by cases b<;>simp_all
theorem e1_(h:(!b)=false):b=true:=by cases b<;>simp_all
theorem k7_(s:Y_)(l h:Nat):(sub s l h).size<=s.size:=by
 unfold sub;rw[ByteArray.size_extract];omega
theorem kR_(s:Y_)(j:Nat):0<=byt s j/\byt s j<=255:=by
 unfold byt;have:((s.data.toList.getD j 0).toNat)<256:=UInt8.toNat_lt _;omega
theorem e8_(s:Y_)(j:Nat):ac_ .i64 (byt s j)=byt s j:=by
 have:=kR_ s j;exact b5_ o_ o_
def cq_(s:Y_):Option Y_:=match leI 1 (sz s)&&(eqI (byt s 0) 115&&aX_ (sub s 1 s.size) 4) with|true=>some (sub s 1 s.size)|false=>none
def bZ_(s:Y_):Option (Int × Y_):=match leI 2 (sz s)&&(eqI (byt s 0) 102&&(leI 1 (byt s 1)&&aX_ (sub s 2 s.size) 3)) with|true=>some (byt s 1,sub s 2 s.size)|false=>none
def c1_(s:Y_):Option Int:=match eqI (sz s) 2&&(eqI (byt s 0) 105&&leI 1 (byt s 1)) with|true=>some (byt s 1)|false=>none
structure SnapR where
 id:Int
 kind:Int
 parent:Y_
 label:Y_
 deriving DecidableEq
structure InoR where
 links:Int
 content:Y_
 deriving DecidableEq
def SnapR.cells(x:SnapR):List GV:=[.int .i64 x.id,.int .i64 x.kind,.str x.parent,.str x.label]
def InoR.cells(x:InoR):List GV:=[.int .i64 x.links,.str x.content]
def kA_:SnapR:=⟨0,0,mkS [],mkS []⟩
def x0_:InoR:=⟨0,mkS []⟩
def fu_(x:SnapR):Bool:=(leI 1 x.id&&leI x.id 255)&&((leI 0 x.kind&&leI x.kind 2)&&((gf_ x.parent (mkS [])||aX_ x.parent 4)&&leI (sz x.label) 3))
def eg_(x:InoR):Bool:=(leI 1 x.links&&leI x.links 255)&&leI (sz x.content) 6
def nK_(s:Y_):SnapR:=⟨byt s 0,byt s 1,sub s 3 (tN (3+byt s 2)),sub s (tN (3+byt s 2)) s.size⟩
def tU_(s:Y_):InoR:=⟨byt s 0,sub s 1 s.size⟩
def bD_(s:Y_):Option SnapR:=match leI 3 (sz s)&&(leI (3+byt s 2) (sz s)&&fu_ (nK_ s)) with|true=>some (nK_ s)|false=>none
def cJ_(s:Y_):Option InoR:=match leI 1 (sz s)&&eg_ (tU_ s) with|true=>some (tU_ s)|false=>none
def JE_(o:Option SnapR):Int:=match o with|some _=>0|none=>1700
def JY_(o:Option InoR):Int:=match o with|some _=>0|none=>1800
section
variable{H:Hp}{Q:Post}{s:Y_}
theorem e5_(r:s.size<=140737488351232)(A:Q (gB (aX_ s 4)) H):cU_ [gS s] H Q:=by
 refine⟨1,?_⟩;rw[xz_];refine pm_ r ?_;simp_all
theorem f1_(r:s.size<=140737488351232)(A:Q (gB (aX_ s 3)) H):dd_ [gS s] H Q:=by
 refine⟨1,?_⟩;rw[x4_];refine pm_ r ?_;simp_all
theorem cB_(r:s.size<=140737488351232)(A:Q (gB (aX_ s 4)) H):bt_ [gS s] H Q:=by
 refine⟨1,?_⟩;rw[sW_];refine my_ r ?_;simp_all
theorem fR_(r:s.size<=140737488351232)(A:Q (gB (aX_ s 3)) H):cE_ [gS s] H Q:=by
 refine⟨1,?_⟩;rw[sc_];refine my_ r ?_;simp_all
theorem hz_(r:Q (gB (leI 1 n&&leI n 255)) H):gD_ [gI n] H Q:=by
 refine⟨1,?_⟩;rw[Ff_];refine aa_ (λe=>?_) λe=>?_
 .grind
 .grind
theorem gX_(r:Q (gB (leI 1 n&&leI n 255)) H):do_ [gI n] H Q:=by
 refine⟨1,?_⟩;rw[wA_];refine aa_ (λe=>?_) λe=>?_
 .grind
 .grind
theorem n6_(A:1<=n)(r:Q (gB (leI n (sz s)&&eqI (byt s 0) p)) H):kd_ [gS s,.g (.int .u8 p),gI n] H Q:=by
 refine⟨1,?_⟩;rw[Fn_];refine aa_ (λe=>?_) λe=>?_
 .rw[e,Bool.true_and]at r;refine ab_ (by simp at e ⊢;omega) ?_;exact r
 .grind
theorem xy_ (hs:s.size<=140737488351232) (hQ:Q (.tup [.s (.str ((cq_ s).getD (mkS []))),.s (.bool (cq_ s).isSome)]) H):jK_ [gS s] H Q:=by
 have hz:=k7_ s 1 s.size;refine⟨1,?_⟩;rw[AN_];refine n6_ o_ ?_;simp only[aO_,am_];refine aa_ (λe=>?_) λe=>?_
 .have:cq_ s=none:=by unfold cq_;rw[<-Bool.and_assoc,eh_ e];rfl
  rw[this]at hQ;exact hQ
 ·have e':(leI 1 (sz s)&&eqI (byt s 0) 115)=true:=by simpa using e
  have h1:1<=s.size:=by simp at e';omega
  refine ab_ s_ ?_;refine e5_ (Nat.le_trans hz hs) ?_;simp only[aO_,am_];refine aa_ (λe2=>?_) λe2=>?_
  .have:cq_ s=none:=by unfold cq_;rw[<-Bool.and_assoc,e',show aX_ (sub s 1 s.size) 4=false by simpa using e2];rfl
   rw[this]at hQ;exact hQ
  .have:cq_ s=some (sub s 1 s.size):=by unfold cq_;rw[<-Bool.and_assoc,e',show aX_ (sub s 1 s.size) 4=true by simpa using e2];rfl
   rw[this]at hQ;refine ab_ s_ ?_;exact hQ
theorem rY_ (hs:s.size<=140737488351232) (hQ:Q (.tup [.s (.str ((cq_ s).getD (mkS []))),.s (.bool (cq_ s).isSome)]) H):fY_ [gS s] H Q:=by
 have hz:=k7_ s 1 s.size;refine⟨1,?_⟩;rw[uE_];refine aa_ (λe=>?_) λe=>?_
 .have:cq_ s=none:=by unfold cq_;rw[show leI 1 (sz s)=false by simp at e ⊢;omega];rfl
  rw[this]at hQ;exact hQ
 ·have h1:1<=s.size:=by simp at e;omega
  have e0:leI 1 (sz s)=true:=by simp;omega
  refine ab_ s_ ?_;refine aa_ (λe1=>?_) λe1=>?_
  .have:cq_ s=none:=by unfold cq_;rw[show eqI (byt s 0) 115=false by simpa using e1,e0];rfl
   rw[this]at hQ;exact hQ
  have e1':eqI (byt s 0) 115=true:=by simpa using e1
  refine ab_ s_ ?_;refine cB_ (Nat.le_trans hz hs) ?_;simp only[aO_,am_];refine aa_ (λe2=>?_) λe2=>?_
  .have:cq_ s=none:=by unfold cq_;rw[e0,e1',show aX_ (sub s 1 s.size) 4=false by simpa using e2];rfl
   rw[this]at hQ;exact hQ
  .have:cq_ s=some (sub s 1 s.size):=by unfold cq_;rw[e0,e1',show aX_ (sub s 1 s.size) 4=true by simpa using e2];rfl
   rw[this]at hQ;refine ab_ s_ ?_;exact hQ
theorem xV_ (hs:s.size<=140737488351232) (hQ:Q (.tup [nN ((bZ_ s).map (·.1) |>.getD 0),.s (.str ((bZ_ s).map (·.2) |>.getD (mkS []))),.s (.bool (bZ_ s).isSome)]) H):jJ_ [gS s] H Q:=by
 have hz:=k7_ s 2 s.size;refine⟨1,?_⟩;rw[An_];refine n6_ o_ ?_;simp only[aO_,am_];refine aa_ (λe=>?_) λe=>?_
 .have:bZ_ s=none:=by unfold bZ_;rw[<-Bool.and_assoc,eh_ e];rfl
  rw[this]at hQ;exact hQ
 ·have e':(leI 2 (sz s)&&eqI (byt s 0) 102)=true:=by simpa using e
  have h1:2<=s.size:=by simp at e';omega
  have hb:=kR_ s 1;refine ab_ s_ ?_;refine hz_ ?_;simp only[aO_,am_];rw[show tN 1=1 from rfl,e8_];refine aa_ (λe2=>?_) λe2=>?_
  .have:bZ_ s=none:=by unfold bZ_;rw[<-Bool.and_assoc,e',show leI 1 (byt s 1)=false by simp at e2 ⊢;omega];rfl
   rw[this]at hQ;exact hQ
  ·have e3:leI 1 (byt s 1)=true:=by simp at e2 ⊢;omega
   refine ab_ s_ ?_;refine f1_ (Nat.le_trans hz hs) ?_;simp only[aO_,am_];refine aa_ (λe4=>?_) λe4=>?_
   .have:bZ_ s=none:=by unfold bZ_;rw[<-Bool.and_assoc,e',e3,show aX_ (sub s 2 s.size) 3=false by simpa using e4];rfl
    rw[this]at hQ;exact hQ
   .have:bZ_ s=some (byt s 1,sub s 2 s.size):=by unfold bZ_;rw[<-Bool.and_assoc,e',e3,show aX_ (sub s 2 s.size) 3=true by simpa using e4];rfl
    rw[this]at hQ;exact ab_ s_ (ab_ s_ hQ)
theorem qB_ (hs:s.size<=140737488351232) (hQ:Q (.tup [nN ((bZ_ s).map (·.1) |>.getD 0),.s (.str ((bZ_ s).map (·.2) |>.getD (mkS []))),.s (.bool (bZ_ s).isSome)]) H):fN_ [gS s] H Q:=by
 have hz:=k7_ s 2 s.size;have hb:=kR_ s 1;refine⟨1,?_⟩;rw[ur_];refine aa_ (λe=>?_) λe=>?_
 .have:bZ_ s=none:=by unfold bZ_;rw[show leI 2 (sz s)=false by simp at e ⊢;omega];rfl
  rw[this]at hQ;exact hQ
 ·have h1:2<=s.size:=by simp at e;omega
  have e0:leI 2 (sz s)=true:=by simp;omega
  refine ab_ s_ ?_;refine aa_ (λe1=>?_) λe1=>?_
  .have:bZ_ s=none:=by unfold bZ_;rw[show eqI (byt s 0) 102=false by simpa using e1,e0];rfl
   rw[this]at hQ;exact hQ
  have e1':eqI (byt s 0) 102=true:=by simpa using e1
  refine ab_ s_ ?_;rw[show tN 1=1 from rfl,e8_];refine aa_ (λe2=>?_) λe2=>?_
  .have:bZ_ s=none:=by unfold bZ_;rw[e0,e1',show leI 1 (byt s 1)=false by simp at e2 ⊢;omega];rfl
   rw[this]at hQ;exact hQ
  ·have e3:leI 1 (byt s 1)=true:=by simp at e2 ⊢;omega
   refine ab_ s_ ?_;refine fR_ (Nat.le_trans hz hs) ?_;simp only[aO_,am_];refine aa_ (λe4=>?_) λe4=>?_
   .have:bZ_ s=none:=by unfold bZ_;rw[e0,e1',e3,show aX_ (sub s 2 s.size) 3=false by simpa using e4];rfl
    rw[this]at hQ;exact hQ
   .have:bZ_ s=some (byt s 1,sub s 2 s.size):=by unfold bZ_;rw[e0,e1',e3,show aX_ (sub s 2 s.size) 3=true by simpa using e4];rfl
    rw[this]at hQ;exact ab_ s_ (ab_ s_ hQ)
theorem uu_ (F:Q (.tup [nN ((c1_ s).getD 0),.s (.bool (c1_ s).isSome)]) H):hm_ [gS s] H Q:=by
 have G:=kR_ s 1;refine⟨1,?_⟩;rw[x6_];refine n6_ o_ (aa_ (λe=>?_) λe=>?_)
 ·have:c1_ s=none:=by
   unfold c1_;have:(eqI (sz s) 2&&(eqI (byt s 0) 105&&leI 1 (byt s 1)))=false:=by
    cases h:(eqI (sz s) 2&&(eqI (byt s 0) 105&&leI 1 (byt s 1))) with
    |false=>rfl
    |true=>simp at h e;omega
   grind
  grind
 ·have C:eqI (byt s 0) 105=true:=by grind
  refine aa_ (λD=>?_) λD=>?_
  .have:c1_ s=none:=by unfold c1_;rw[show eqI (sz s) 2=false by simpa using D];rfl
   grind
  ·have r:eqI (sz s) 2=true:=by grind
   refine ab_ (by simp_all) (hz_ ?_);rw[show tN 1=1 from rfl,e8_];refine aa_ (λA=>?_) λA=>?_
   .have:c1_ s=none:=by unfold c1_;rw[r,C,show leI 1 (byt s 1)=false by simp at A ⊢;omega];rfl
    grind
   .have:c1_ s=some (byt s 1):=by unfold c1_;rw[r,C,show leI 1 (byt s 1)=true by simp at A ⊢;omega];rfl
    simp_all
theorem o5_ (G:Q (.tup [nN ((c1_ s).getD 0),.s (.bool (c1_ s).isSome)]) H):eL_ [gS s] H Q:=by
 have I:=kR_ s 1;refine⟨1,?_⟩;rw[qO_];refine aa_ (λF=>?_) λF=>?_
 .have:c1_ s=none:=by unfold c1_;rw[show eqI (sz s) 2=false by simpa using F];rfl
  grind
 ·have r:eqI (sz s) 2=true:=by grind
  refine ab_ (by simp_all) (aa_ (λD=>?_) λD=>?_)
  .have:c1_ s=none:=by unfold c1_;rw[r,show eqI (byt s 0) 105=false by simpa using D];rfl
   grind
  have A:eqI (byt s 0) 105=true:=by simp_all
  refine ab_ (by simp_all) ?_;rw[show tN 1=1 from rfl,e8_];refine aa_ (λC=>?_) λC=>?_
  .have:c1_ s=none:=by unfold c1_;rw[r,A,show leI 1 (byt s 1)=false by simp at C ⊢;omega];rfl
   grind
  .have:c1_ s=some (byt s 1):=by unfold c1_;rw[r,A,show leI 1 (byt s 1)=true by simp at C ⊢;omega];rfl
   simp_all
end
section
variable{H:Hp}{Q:Post}{s:Y_}
theorem oe_(r:Q (gB (leI 0 n&&leI n 2)) H):gV_ [gI n] H Q:=by
 refine⟨1,?_⟩;rw[z0_];refine aa_ (λe=>?_) λe=>?_
 .grind
 .grind
theorem i1_(r:Q (gB (leI (sz s) 3)) H):fP_ [gS s] H Q:=⟨1,r⟩
theorem ho_(r:Q (gB (leI (sz s) 6)) H):ds_ [gS s] H Q:=⟨1,r⟩
theorem pt_ (G:x.parent.size<=140737488351232) (F:Q (gB (fu_ x)) H):hU_ [.agg [.int .i64 x.id,.int .i64 x.kind,.str x.parent,.str x.label]] H Q:=by
 refine⟨1,?_⟩;rw[AM_];unfold fu_ at F;refine hz_ (aa_ (λD=>?_) λD=>?_)
 rotate_left
 .grind
 refine oe_ (aa_ (λA=>?_) λA=>?_)
 rotate_left
 .grind
 refine aa_ (λC=>?_) λC=>?_
 .refine i1_ ?_;simp_all
 .refine e5_ G (aa_ (λr=>?_) λr=>?_)
  .refine i1_ ?_;simp_all
  .grind
theorem jM_ (I:x.parent.size<=140737488351232) (G:Q (gB (fu_ x)) H):dX_ [.agg [.int .i64 x.id,.int .i64 x.kind,.str x.parent,.str x.label]] H Q:=by
 refine⟨1,?_⟩;rw[tg_];unfold fu_ at G;refine gX_ (aa_ (λD=>?_) λD=>?_)
 rotate_left
 .grind
 refine aa_ (λA=>?_) λA=>?_
 rotate_left
 .grind
 refine aa_ (λF=>?_) λF=>?_
 rotate_left
 .grind
 refine aa_ (λC=>?_) λC=>?_
 .grind
 .refine cB_ I (aa_ (λr=>?_) λr=>?_)
  .grind
  .grind
theorem m6_(A:Q (gB (eg_ x)) H):gY_ [.agg [.int .i64 x.links,.str x.content]] H Q:=by
 refine⟨1,?_⟩;rw[yZ_];unfold eg_ at A;refine hz_ (aa_ (λr=>?_) λr=>?_)
 .refine ho_ ?_;simp_all
 .grind
theorem ji_(A:Q (gB (eg_ x)) H):dt_ [.agg [.int .i64 x.links,.str x.content]] H Q:=by
 refine⟨1,?_⟩;rw[ru_];unfold eg_ at A;refine gX_ (aa_ (λr=>?_) λr=>?_)
 .grind
 .grind
theorem xI_ (V:s.size<=140737488351232) (r:Q (.tup [.a ((bD_ s).getD kA_).cells,nN (JE_ (bD_ s))]) H):jZ_ [gS s] H Q:=by
 have Y:=kR_ s 2;refine⟨1,?_⟩;rw[BX_];refine aa_ (λI=>?_) λI=>?_
 .have:bD_ s=none:=by unfold bD_;rw[show leI 3 (sz s)=false by simp at I ⊢;omega];rfl
  rw[this]at r;exact r
 have W:3<=s.size:=by simp at I;omega
 have A:leI 3 (sz s)=true:=by simp_all
 have N:tN 2=2:=rfl;have J:tN 1=1:=rfl;have U:tN 0=0:=rfl;have O:tN 3=3:=rfl;rw[U,J,N,O,e8_,e8_,e8_,b5_ s_ s_,b5_ o_ o_];refine ab_ s_ ?_;refine aa_ (λF=>?_) λF=>?_
 .have:bD_ s=none:=by unfold bD_;rw[show leI (3+byt s 2) (sz s)=false by simp at F ⊢;omega,A];rfl
  rw[this]at r;exact r
 have C:leI (3+byt s 2) (sz s)=true:=by simp at F ⊢;omega
 have D:(tN (3+byt s 2))<=s.size:=by simp_all
 refine ab_ s_ (ab_ s_ (ab_ s_ (ab_ s_ (ab_ (by simp at D ⊢;omega) ?_))));refine ab_ s_ (ab_ (by simp at D ⊢;omega) ?_);refine pt_ (x:=nK_ s) (Nat.le_trans (k7_ _ _ _) V) (aa_ (λG=>?_) λG=>?_)
 .have:bD_ s=none:=by unfold bD_;rw[A,C,eh_ G];rfl
  rw[this]at r;exact r
 .have:bD_ s=some (nK_ s):=by unfold bD_;rw[A,C,e1_ G];rfl
  rw[this]at r;exact r
theorem pT_ (V:s.size<=140737488351232) (r:Q (.tup [.a ((bD_ s).getD kA_).cells,nN (JE_ (bD_ s))]) H):fq_ [gS s] H Q:=by
 have Y:=kR_ s 2;refine⟨1,?_⟩;rw[so_];refine aa_ (λG=>?_) λG=>?_
 .have:bD_ s=none:=by unfold bD_;rw[show leI 3 (sz s)=false by simp at G ⊢;omega];rfl
  rw[this]at r;exact r
 have W:3<=s.size:=by simp at G;omega
 have A:leI 3 (sz s)=true:=by simp_all
 have N:tN 2=2:=rfl;have J:tN 1=1:=rfl;have U:tN 0=0:=rfl;have O:tN 3=3:=rfl;rw[U,J,N,O,e8_,e8_,e8_,b5_ o_ o_];refine ab_ s_ ?_;refine aa_ (λI=>?_) λI=>?_
 .have:bD_ s=none:=by unfold bD_;rw[show leI (3+byt s 2) (sz s)=false by simp at I ⊢;omega,A];rfl
  rw[this]at r;exact r
 have C:leI (3+byt s 2) (sz s)=true:=by simp_all
 have D:(tN (3+byt s 2))<=s.size:=by simp_all
 refine ab_ s_ (ab_ s_ (ab_ s_ (ab_ s_ (ab_ (by simp at D ⊢;omega) ?_))));refine ab_ s_ (ab_ (by simp at D ⊢;omega) ?_);refine jM_ (x:=nK_ s) (Nat.le_trans (k7_ _ _ _) V) (aa_ (λF=>?_) λF=>?_)
 .have:bD_ s=none:=by unfold bD_;rw[A,C,eh_ F];rfl
  rw[this]at r;exact r
 .have:bD_ s=some (nK_ s):=by unfold bD_;rw[A,C,e1_ F];rfl
  rw[this]at r;exact r
theorem w1_ (G:s.size<=140737488351232) (r:Q (.tup [.a ((cJ_ s).getD x0_).cells,nN (JY_ (cJ_ s))]) H):ia_ [gS s] H Q:=by
 refine⟨1,?_⟩;rw[zl_];refine aa_ (λD=>?_) λD=>?_
 .have F:s.size=0:=lr_.1 (by simp_all);have:cJ_ s=none:=by unfold cJ_;rw[show leI 1 (sz s)=false by simp;omega];rfl
  rw[this]at r;exact r
 have F:s.size≠0:=λz=>by rw[lr_.2 z]at D;simp at D
 have A:leI 1 (sz s)=true:=by simp;omega
 rw[show tN 0=0 from rfl,show tN 1=1 from rfl,e8_];refine ab_ s_ (ab_ s_ ?_);refine m6_ (x:=tU_ s) (aa_ (λC=>?_) λC=>?_)
 .have:cJ_ s=none:=by unfold cJ_;rw[A,eh_ C];rfl
  rw[this]at r;exact r
 .have:cJ_ s=some (tU_ s):=by unfold cJ_;rw[A,e1_ C];rfl
  rw[this]at r;exact r
theorem o1_ (G:s.size<=140737488351232) (r:Q (.tup [.a ((cJ_ s).getD x0_).cells,nN (JY_ (cJ_ s))]) H):eJ_ [gS s] H Q:=by
 refine⟨1,?_⟩;rw[q9_];refine aa_ (λD=>?_) λD=>?_
 .have F:s.size=0:=lr_.1 (by simp_all);have:cJ_ s=none:=by unfold cJ_;rw[show leI 1 (sz s)=false by simp;omega];rfl
  rw[this]at r;exact r
 have F:s.size≠0:=λz=>by rw[lr_.2 z]at D;simp at D
 have A:leI 1 (sz s)=true:=by simp;omega
 rw[show tN 0=0 from rfl,show tN 1=1 from rfl,e8_];refine ab_ s_ (ab_ s_ ?_);refine ji_ (x:=tU_ s) (aa_ (λC=>?_) λC=>?_)
 .have:cJ_ s=none:=by unfold cJ_;rw[A,eh_ C];rfl
  rw[this]at r;exact r
 .have:cJ_ s=some (tU_ s):=by unfold cJ_;rw[A,e1_ C];rfl
  rw[this]at r;exact r
end
end Go.Am
namespace Go.Am
def blt(a b:Y_):Bool:=Op.bytesLess (bs a) (bs b)
theorem hK_(a b:Y_):dE_ a b=blt a b:=j7_ a b
def Hw_:List Y_->Bool
 |[]=>true
 |[_]=>true
 |a::b::r=>Op.bytesLess (bs a) (bs b)&&Hw_ (b::r)
theorem vI_:∀xs:List Y_,Hw_ xs=true↔ir_ xs
 |[]=>⟨λ_ i h=>absurd h t_,λ_=>rfl⟩
 |[_]=>⟨λ_ i h=>absurd h t_,λ_=>rfl⟩
 | a::b::r=>by
  have F:=vI_ (b::r);simp[Hw_,F,<-j7_];constructor
  .rintro⟨D,C⟩ i A;cases i with
   |zero=>exact D
   |succ i=>exact C i g_
  .exact λh=>⟨h 0 t_,λi A=>h (i+1) g_⟩
def nodB:List Int->Bool
 |[]=>true
 |a::r=> !(r.contains a)&&nodB r
theorem Cb_:∀xs:List Int,nodB xs=true↔xs.Nodup
 |[]=>by simp[nodB]
 |a::r=>by simp[nodB,Cb_ r]
def DV_ (p:Pg):Bool:=p.used&&(Hw_ p.keys&&(p.keys.all (λk=>decide (1<=k.size)&&decide (k.size<=6))&&
 (match p.leaf with
  |true=>decide (p.vals.length=p.keys.length)&&(p.kids.isEmpty&&p.vals.all λv=>decide (v.size<=10))
  |false=>decide (1<=p.keys.length)&&(p.vals.isEmpty&&(decide (p.kids.length=p.keys.length+1)&&(p.kids.all (λk=>decide (1<=k)&&decide (k<48))&&nodB p.kids))))))
theorem E8_ (p:Pg):DV_ p=true↔iR_ p:=by
 have⟨u,l,r,A,is⟩:=p;cases l with
 |true=>
  simp[DV_,vI_];exact⟨λh=>⟨h.1,h.2.1,h.2.2.1,λ_=>h.2.2.2,λq=>g_⟩,λh=>⟨h.used,h.rising,h.keys,h.leaf rfl⟩⟩
 |false=>
  simp[DV_,vI_,Cb_];exact⟨λh=>⟨h.1,h.2.1,h.2.2.1,λq=>g_,λ_=>h.2.2.2⟩,λh=>⟨h.used,h.rising,h.keys,h.inner rfl⟩⟩
def kq_(p:Pg):Bool:=decide (p.keys.length<=4)&&DV_ p
theorem dZ_(p:Pg):kq_ p=true↔fa_ p:=by simp[kq_,fa_,E8_]
structure WS where
 met:List Bool
 deep:Nat
 count:Nat
def gb_(lo hi:Y_)(ks:List Y_):Bool:=ks.all λk=> !(blt k lo)&&(decide (hi.size=0)||blt k hi)
def loK(p:Pg)(lo:Y_)(i:Nat):Y_:=match decide (0<i) with|true=>p.keys[i-1]?.getD lo|false=>lo
def hiK(p:Pg)(hi:Y_)(i:Nat):Y_:=p.keys[i]?.getD hi
def gy_ (rec:Int->Nat->WS->Option WS):List Int->Nat->WS->Option WS
 |[],_,st=>some st
 |k::ks,i,st=>match rec k i st with
  |none=>none
  |some st'=>gy_ rec ks (i+1) st'
def okD(p:Pg)(at_:Nat)(lo hi:Y_)(st:WS):Bool:= !(st.met[at_]?.getD true)&&(kq_ p&&(!(decide (0<at_)&&decide (p.keys.length<2))&&gb_ lo hi p.keys))
def leafD (p:Pg) (deep:Nat) (st:WS):Option WS:=match decide (st.deep=0) with
 |true=>some ⟨st.met,deep,st.count+p.keys.length⟩
 |false=>match decide (st.deep=deep) with
  |true=>some ⟨st.met,deep,st.count+p.keys.length⟩
  |false=>none
def cM_ (T:List Pg):Nat->Nat->Nat->Y_->Y_->WS->Option WS
 |0,_,_,_,_,_=>none
 | f+1,at_,deep,lo,hi,st=>match T[at_]? with
  |none=>none
  | some p=>match okD p at_ lo hi st with
   |false=>none
   |true=>match p.leaf with
    |true=>leafD p deep ⟨st.met.set at_ true,st.deep,st.count⟩
    |false=>gy_ (λk i s=>cM_ T f k.toNat (deep+1) (loK p lo i) (hiK p hi i) s) p.kids 0 ⟨st.met.set at_ true,st.deep,st.count⟩
def cL_(p:Pg):Bool:= !p.used&&(!p.leaf&&(p.keys.isEmpty&&(p.vals.isEmpty&&p.kids.isEmpty)))
def hx_(T:List Pg)(met:List Bool):Bool:=(List.range T.length).all λi=>met[i]?.getD true||cL_ (T[i]?.getD noPg)
def ws0:WS:=⟨List.replicate 48 false,0,0⟩
def aK_ (T:List Pg):Nat:=match decide (T.length=48) with
 |false=>0
 | true=>match cM_ T 49 0 1 (mkS []) (mkS []) ws0 with
  |none=>0
  |some st=>match hx_ T st.met&&decide (st.count<=60) with
   |true=>st.deep
   |false=>0
def gd_(met:List Bool):Nat:=(met.filter (! ·)).length
theorem oM_:∀{met:List Bool}{i:Nat},met[i]?=some false->gd_ (met.set i true)+1=gd_ met
 |[],i,h=>by grind
 |b::met,0,h=>by simp at h;subst h;simp[gd_]
 |b::met,i+1,h=>by
  have:=oM_ (met:=met) (i:=i) g_;unfold gd_ at this ⊢;grind
theorem iJ_ (T:List Pg):∀f D A lo hi st C,cM_ T f D A lo hi st=some C->gd_ C.met<=gd_ st.met/\C.met.length=st.met.length/\(1<=A->C.deep≠0)/\C.count+4*gd_ C.met<=st.count+4*gd_ st.met:=by
 intro f;induction f with
 |zero=>intro _ _ _ _ _ _ h;cases h
 | succ f ih=>
  intro D A lo hi st C h;unfold cM_ at h;cases V:T[D]? with
  |none=>rw[V]at h;cases h
  | some p=>
   rw[V]at h;dsimp at h;cases r:okD p D lo hi st with
   |false=>rw[r]at h;cases h
   | true=>
    rw[r]at h;have hm:st.met[D]?=some false:=by
     unfold okD at r;rw[kR]at r;have:=r.1;cases U:st.met[D]? with
     |none=>rw[U]at this;simp at this
     |some b=>rw[U]at this;simp at this;rw[this]
    have hu:=oM_ hm;have h4:p.keys.length<=4:=by
     unfold okD at r;simp only[kR]at r;exact ((dZ_ p).1 r.2.1).1
    cases I:p.leaf with
    | true=>
     rw[I]at h;dsimp[leafD]at h;split at h
     .cases h;exact⟨by dsimp;omega,t_,λhd=>by dsimp;omega,by dsimp;omega⟩
     .split at h
      .cases h;exact⟨by dsimp;omega,t_,λhd=>by dsimp;omega,by dsimp;omega⟩
      .cases h
    | false=>
     rw[I]at h;have hk:p.kids≠[]:=by
      intro e;unfold okD at r;simp only[kR]at r;have:=((dZ_ p).1 r.2.1).2.inner I;rw[e]at this;simp at this
     have key:∀G i (s F),gy_ (λk i s=>cM_ T f k.toNat (A+1) (loK p lo i) (hiK p hi i) s) G i s=some F->gd_ F.met<=gd_ s.met/\F.met.length=s.met.length/\(G≠[]\/s.deep≠0->F.deep≠0)/\F.count+4*gd_ F.met<=s.count+4*gd_ s.met:=by
      intro G;induction G with
      |nil=>intro i s F h;cases h;exact⟨kO _,rfl,λq=>by simp_all,kO _⟩
      | cons k G J=>
       intro i s F h;unfold gy_ at h;cases N:cM_ T f k.toNat (A+1) (loK p lo i) (hiK p hi i) s with
       |none=>rw[N]at h;cases h
       |some s1=>
        rw[N]at h;have⟨W,O,Z,Y⟩:=ih _ _ _ _ _ _ N;obtain⟨v1,v2,v3,v4⟩:=J _ _ _ h;omega
     obtain⟨W,O,Z,Y⟩:=key _ _ _ _ h;dsimp at W O Y;exact⟨o_,by rw[O];simp,λ_=>Z (.inl hk),o_⟩
theorem jG_ (T:List Pg) (f h r:Nat) (lo hi:Y_) (st:WS) (A:T[h]?=some p):cM_ T (f+1) h r lo hi st=(match okD p h lo hi st with
 |false=>none
 |true=>match p.leaf with
  |true=>leafD p r ⟨st.met.set h true,st.deep,st.count⟩
  |false=>gy_ (λk i s=>cM_ T f k.toNat (r+1) (loK p lo i) (hiK p hi i) s) p.kids 0 ⟨st.met.set h true,st.deep,st.count⟩):=by
 rw[cM_,A]
end Go.Am
